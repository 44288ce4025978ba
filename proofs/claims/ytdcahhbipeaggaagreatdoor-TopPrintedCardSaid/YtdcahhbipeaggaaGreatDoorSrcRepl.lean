/- Lemmas for TopPrinted: SrcRepl. -/
import Derived.Test.YtdcahhbipeaggaaGreatDoorSrcParse
import Derived.ChangeKeysEq
import Derived.Lib.Replace
set_option maxRecDepth 100000
set_option maxHeartbeats 16000000
namespace Go.Proofs.YtdcahhbipeaggaaGreatDoor
open Go.RowKit
theorem XnJ(A A':Option Addr)(cap cap':Nat)(l:List Xt)(w:World)(B:Nat)(hB:B<=w.heap.size)(hs:XA w B 4 Xt.cells ⟨A,cap,l⟩)(hE:XA w B 4 Xt.cells ⟨A',cap',l⟩):
 Calls Tryz.prog 31 #[.slice A l.length cap,.slice A' l.length cap'] w (Xc w (.bool true)):=by
 have HS:=Xa hs;have hH:=Xa hE;have hm:cap<=9223372036854775807:=hs.2.1;have hL:l.length<=cap:=hs.1;have hM:cap'<=9223372036854775807:=hE.2.1;have hI:l.length<=cap':=hE.1;clear hs hE;go_enter Tryz.func31,Tryz.ntmps31;go_wp2;go_loopw [13] (λv wr=>∃k:Nat,v=.int .i64 k/\k<=l.length/\∃x:Xb w.heap.size w,wr=x.val) (λv _=>l.length-(intOf v).toNat)
 case atStart=>exact⟨0,rfl,Nat.zero_le _,Xb.refl _ _,rfl⟩
 case round=>
  obtain⟨k,rfl,hk,x,rfl⟩:=hrel;by_cases hJ:k<l.length
  ·obtain⟨b,off,hA,hb,hD⟩:=HS.out.2.2 (show 0<l.length by omega);obtain⟨b',off',hG,hN,hC⟩:=hH.out.2.2 (show 0<l.length by omega);simp only at hA hG;subst hA;subst hG;have hx:l[k]? =some l[k]:=lgE hJ;have he:=λx:Xb w.heap.size w=>Xt.elem hx (show b<w.heap.size by omega) hD x;have hK:=λx:Xb w.heap.size w=>Xt.elem hx (show b'<w.heap.size by omega) hC x;have hO:(k:Int)<(l.length:Int):=by omega
   have hP:(0:Int)<=(k:Int):=by omega
   clear hD hC hx;obtain⟨x1,hx1⟩:∃x1,x1=l[k]:=⟨_,rfl⟩
   rw[<-hx1] at he hK;clear hx1;go_wp2;refine Xk x (by kernel_rfl) (by kernel_rfl) ?_
   repeat (go_big_quiet_step (fail))
   refine wpQuiet_nil ?_;intro z;go_wp2;exact⟨⟨k+1,by go_num,by omega,_,rfl⟩,by simp[intOf];omega⟩
  ·go_wp2;go_ret;exact Xc.mk rfl x.below
theorem XnK(A A':Option Addr)(cap cap':Nat)(l:List Xu)(w:World)(B:Nat)(hB:B<=w.heap.size)(hs:XA w B 7 Xu.cells ⟨A,cap,l⟩)(hE:XA w B 7 Xu.cells ⟨A',cap',l⟩):
 Calls Tryz.prog 86 #[.slice A l.length cap,.slice A' l.length cap'] w (Xc w (.bool true)):=by
 have HS:=Xa hs;have hH:=Xa hE;have hm:cap<=9223372036854775807:=hs.2.1;have hL:l.length<=cap:=hs.1;have hM:cap'<=9223372036854775807:=hE.2.1;have hI:l.length<=cap':=hE.1;clear hs hE;go_enter Tryz.func86,Tryz.ntmps86;go_wp2;go_loopw [13] (λv wr=>∃k:Nat,v=.int .i64 k/\k<=l.length/\∃x:Xb w.heap.size w,wr=x.val) (λv _=>l.length-(intOf v).toNat)
 case atStart=>exact⟨0,rfl,Nat.zero_le _,Xb.refl _ _,rfl⟩
 case round=>
  obtain⟨k,rfl,hk,x,rfl⟩:=hrel;by_cases hJ:k<l.length
  ·obtain⟨b,off,hA,hb,hD⟩:=HS.out.2.2 (show 0<l.length by omega);obtain⟨b',off',hG,hN,hC⟩:=hH.out.2.2 (show 0<l.length by omega);simp only at hA hG;subst hA;subst hG;have hx:l[k]? =some l[k]:=lgE hJ;have he:=λx:Xb w.heap.size w=>Xu.elem hx (show b<w.heap.size by omega) hD x;have hK:=λx:Xb w.heap.size w=>Xu.elem hx (show b'<w.heap.size by omega) hC x;have hO:(k:Int)<(l.length:Int):=by omega
   have hP:(0:Int)<=(k:Int):=by omega
   clear hD hC hx;obtain⟨x1,hx1⟩:∃x1,x1=l[k]:=⟨_,rfl⟩
   rw[<-hx1] at he hK;clear hx1;go_wp2;refine Xk x (by kernel_rfl) (by kernel_rfl) ?_
   repeat (go_big_quiet_step (fail))
   refine wpQuiet_nil ?_;intro z;go_wp2;exact⟨⟨k+1,by go_num,by omega,_,rfl⟩,by simp[intOf];omega⟩
  ·go_wp2;go_ret;exact Xc.mk rfl x.below
theorem Xmf(A A':Option Addr)(cap cap':Nat)(l:List Xo)(w:World)(B:Nat)(hB:B<=w.heap.size)(hs:XA w B 3 Xo.cells ⟨A,cap,l⟩)(hE:XA w B 3 Xo.cells ⟨A',cap',l⟩):
 Calls Tryz.prog 87 #[.slice A l.length cap,.slice A' l.length cap'] w (Xc w (.bool true)):=by
 have HS:=Xa hs;have hH:=Xa hE;have hm:cap<=9223372036854775807:=hs.2.1;have hL:l.length<=cap:=hs.1;have hM:cap'<=9223372036854775807:=hE.2.1;have hI:l.length<=cap':=hE.1;clear hs hE;go_enter Tryz.func87,Tryz.ntmps87;go_wp2;go_loopw [13] (λv wr=>∃k:Nat,v=.int .i64 k/\k<=l.length/\∃x:Xb w.heap.size w,wr=x.val) (λv _=>l.length-(intOf v).toNat)
 case atStart=>exact⟨0,rfl,Nat.zero_le _,Xb.refl _ _,rfl⟩
 case round=>
  obtain⟨k,rfl,hk,x,rfl⟩:=hrel;by_cases hJ:k<l.length
  ·obtain⟨b,off,hA,hb,hD⟩:=HS.out.2.2 (show 0<l.length by omega);obtain⟨b',off',hG,hN,hC⟩:=hH.out.2.2 (show 0<l.length by omega);simp only at hA hG;subst hA;subst hG;have hx:l[k]? =some l[k]:=lgE hJ;have he:=λx:Xb w.heap.size w=>Xo.elem hx (show b<w.heap.size by omega) hD x;have hK:=λx:Xb w.heap.size w=>Xo.elem hx (show b'<w.heap.size by omega) hC x;have hO:(k:Int)<(l.length:Int):=by omega
   have hP:(0:Int)<=(k:Int):=by omega
   clear hD hC hx;obtain⟨x1,hx1⟩:∃x1,x1=l[k]:=⟨_,rfl⟩
   rw[<-hx1] at he hK;clear hx1;go_wp2;refine Xk x (by kernel_rfl) (by kernel_rfl) ?_
   repeat (go_big_quiet_step (fail))
   refine wpQuiet_nil ?_;intro z;go_wp2;exact⟨⟨k+1,by go_num,by omega,_,rfl⟩,by simp[intOf];omega⟩
  ·go_wp2;go_ret;exact Xc.mk rfl x.below
theorem Xi8(A A':Option Addr)(cap cap':Nat)(l:List Int)(w:World)(B:Nat)(hB:B<=w.heap.size)(hs:XA w B 1 Xj ⟨A,cap,l⟩)(hE:XA w B 1 Xj ⟨A',cap',l⟩):
 Calls Tryz.prog 20 #[.slice A l.length cap,.slice A' l.length cap'] w (Xc w (.bool true)):=by
 have HS:=Xa hs;have hH:=Xa hE;have hm:cap<=9223372036854775807:=hs.2.1;have hL:l.length<=cap:=hs.1;have hM:cap'<=9223372036854775807:=hE.2.1;have hI:l.length<=cap':=hE.1;clear hs hE;go_enter Tryz.func20,Tryz.ntmps20;go_wp2;go_loopw [13] (λv wr=>∃k:Nat,v=.int .i64 k/\k<=l.length/\∃x:Xb w.heap.size w,wr=x.val) (λv _=>l.length-(intOf v).toNat)
 case atStart=>exact⟨0,rfl,Nat.zero_le _,Xb.refl _ _,rfl⟩
 case round=>
  obtain⟨k,rfl,hk,x,rfl⟩:=hrel;by_cases hJ:k<l.length
  ·obtain⟨b,off,hA,hb,hD⟩:=HS.out.2.2 (show 0<l.length by omega);obtain⟨b',off',hG,hN,hC⟩:=hH.out.2.2 (show 0<l.length by omega);simp only at hA hG;subst hA;subst hG;have hx:l[k]? =some l[k]:=lgE hJ;have he:=λx:Xb w.heap.size w=>XaL hx (show b<w.heap.size by omega) hD x;have hK:=λx:Xb w.heap.size w=>XaL hx (show b'<w.heap.size by omega) hC x;have hO:(k:Int)<(l.length:Int):=by omega
   have hP:(0:Int)<=(k:Int):=by omega
   clear hD hC hx;obtain⟨x1,hx1⟩:∃x1,x1=l[k]:=⟨_,rfl⟩
   rw[<-hx1] at he hK;clear hx1;go_wp2;refine Xk x (by kernel_rfl) (by kernel_rfl) ?_
   repeat (go_big_quiet_step (fail))
   refine wpQuiet_nil ?_;intro z;go_wp2;exact⟨⟨k+1,by go_num,by omega,_,rfl⟩,by simp[intOf];omega⟩
  ·go_wp2;go_ret;exact Xc.mk rfl x.below
theorem XmV(s s':Xd)(hp:s.pl=s'.pl)(w:World)(B:Nat)(hB:B<=w.heap.size)(hx:Xd.at_ w B s)(hy:Xd.at_ w B s'):
 Calls Tryz.prog 33 #[.agg #[.string s.name,.int .i64 s.depth,.int .i64 s.low,.int .i64 s.high,.int .i64 s.length,.slice s.aG.A s.aG.l.length s.aG.cap,.int .i64 s.aM,.int .i64 s.aN,.int .i64 s.aI,.int .i64 s.most,.int .i64 s.aJ,.slice s.aF.A s.aF.l.length s.aF.cap,.slice s.aE.A s.aE.l.length s.aE.cap],.agg #[.string s'.name,.int .i64 s'.depth,.int .i64 s'.low,.int .i64 s'.high,.int .i64 s'.length,.slice s'.aG.A s'.aG.l.length s'.aG.cap,.int .i64 s'.aM,.int .i64 s'.aN,.int .i64 s'.aI,.int .i64 s'.most,.int .i64 s'.aJ,.slice s'.aF.A s'.aF.l.length s'.aF.cap,.slice s'.aE.A s'.aE.l.length s'.aE.cap]] w (Xc w (.bool true)):=by
 obtain⟨nm,d,lo,hi,le,⟨a1,c1,ls⟩,pi,ar,pu,mo,br,⟨a2,c2,is⟩,⟨a3,c3,bs⟩⟩:=s;obtain⟨nm',d',lo',hW,le',⟨a1',c1',ls'⟩,pi',ar',pu',mo',br',⟨a2',c2',is'⟩,⟨a3',c3',bs'⟩⟩:=s';simp only[Xd.pl,Yi.mk.injEq] at hp;obtain⟨rfl,rfl,rfl,rfl,rfl,rfl,rfl,rfl,rfl,rfl,rfl,rfl,rfl⟩:=hp;simp only;obtain⟨W1,hK,hL,hM,hN⟩:=boxed w (.cells #[.string nm,.int .i64 d,.int .i64 lo,.int .i64 hi,.int .i64 le,.slice a1 ls.length c1,.int .i64 pi,.int .i64 ar,.int .i64 pu,.int .i64 mo,.int .i64 br,.slice a2 is.length c2,.slice a3 bs.length c3] 57);obtain⟨W,hO,hQ,hI,hJ⟩:=boxed W1 (.cells #[.string nm,.int .i64 d,.int .i64 lo,.int .i64 hi,.int .i64 le,.slice a1' ls.length c1',.int .i64 pi,.int .i64 ar,.int .i64 pu,.int .i64 mo,.int .i64 br,.slice a2' is.length c2',.slice a3' bs.length c3'] 57)
 have hb:Below w.heap.size w W:=hM.trans (hI.mono (by omega));have hC:=(hI.block _ (by omega)).trans hN;rw[hL] at hJ;have hG:=λy:Xb W.heap.size W=>Xd.boxed (s:=⟨nm,d,lo,hi,le,⟨a1,c1,ls⟩,pi,ar,pu,mo,br,⟨a2,c2,is⟩,⟨a3,c3,bs⟩⟩) hC (by omega) y;have hH:=λy:Xb W.heap.size W=>Xd.boxed (s:=⟨nm,d,lo,hi,le,⟨a1',c1',ls⟩,pi,ar,pu,mo,br,⟨a2',c2',is⟩,⟨a3',c3',bs⟩⟩) hJ (by omega) y;simp only at hG hH;have hR:=And.intro (hG (Xb.refl _ _)) (hH (Xb.refl _ _));simp only[Xb.refl] at hR;have hP:=bdo hb;have hD:=hx.to (hb.mono hB) (show B<=W.heap.size by omega);have hE:=hy.to (hb.mono hB) (show B<=W.heap.size by omega)
 have K1:=Xa (λy:Xb W.heap.size W=>Xc.after (x:=y) nr (Xi8 a1 a1' c1 c1' ls y.val W.heap.size y.size (hD.aG.to y.below nr) (hE.aG.to y.below nr)));have K2:=Xa (λy:Xb W.heap.size W=>Xc.after (x:=y) nr (XnK a2 a2' c2 c2' is y.val W.heap.size y.size (hD.aF.to y.below nr) (hE.aF.to y.below nr)));have K3:=Xa (λy:Xb W.heap.size W=>Xc.after (x:=y) nr (Xmf a3 a3' c3 c3' bs y.val W.heap.size y.size (hD.aE.to y.below nr) (hE.aE.to y.below nr)));have K0:=Xa (Xc.first (Xi8 a1 a1' c1 c1' ls W W.heap.size nr hD.aG hE.aG))
 have hT:=Xa hP;have HW:=Xa (show(w.alloc (.cells #[.string nm,.int .i64 d,.int .i64 lo,.int .i64 hi,.int .i64 le,.slice a1 ls.length c1,.int .i64 pi,.int .i64 ar,.int .i64 pu,.int .i64 mo,.int .i64 br,.slice a2 is.length c2,.slice a3 bs.length c3] 57)).alloc (.cells #[.string nm,.int .i64 d,.int .i64 lo,.int .i64 hi,.int .i64 le,.slice a1' ls.length c1',.int .i64 pi,.int .i64 ar,.int .i64 pu,.int .i64 mo,.int .i64 br,.slice a2' is.length c2',.slice a3' bs.length c3'] 57)=W by rw[<-hK,<-hO]);clear hK hO hL hQ hM hI hN hJ hC hD hE hx hy hP hb;go_enter Tryz.func33,Tryz.ntmps33
 go_wp2_with (first
  |(go_at_call 20;rw[HW.out];refine K0.out.mono ?_;rintro e w' ⟨rfl,y1,rfl⟩;have hU:=And.intro (hG y1) (hH y1))
  |(go_at_call 86;refine(K2.out y1).mono ?_;rintro e w' ⟨rfl,y2,rfl⟩;have hV:=And.intro (hG y2) (hH y2))
  |(go_at_call 87;refine(K3.out y2).mono ?_;rintro e w' ⟨rfl,y3,rfl⟩))
 go_ret;exact Xc.mk rfl (hT.out _)
theorem Xi9:∀args w,(callFunc 33 args).run Tryz.prog w=.ok (.enter 33 args) w:=XZ Tryz.func33 (by kernel_rfl) rfl
theorem Xpy(A A':Option Addr)(cap cap':Nat)(l l':List Xd)(hp:l.map Xd.pl=l'.map Xd.pl)(w:World)(B:Nat)(hB:B<=w.heap.size)(hs:XA w B 13 Xd.cells ⟨A,cap,l⟩)(hH:XA w B 13 Xd.cells ⟨A',cap',l'⟩)(hQ:∀s∈l,Xd.at_ w B s)(hR:∀s∈l',Xd.at_ w B s):
 Calls Tryz.prog 32 #[.slice A l.length cap,.slice A' l'.length cap',.func (.func 33) #[] #[]] w (Xc w (.bool true)):=by
 have hl:l.length=l'.length:=by have:=congrArg List.length hp;simpa using this
 have HS:=Xa hs;have pC:=Xa hH;have pD:=Xa hQ;have pE:=Xa hR;have HP:=Xa hp;have hm:cap<=9223372036854775807:=hs.2.1;have pL:l.length<=cap:=hs.1;have pM:cap'<=9223372036854775807:=hH.2.1;have hJ:l'.length<=cap':=hH.1;have HL:=Xa hl;have eg:=Xi9;rw[<-hl] at hJ ⊢;clear hs hH hQ hR hp hl;go_enter Tryz.func32,Tryz.ntmps32;go_wp2;go_loopw [17] (λv wr=>∃k:Nat,v=.int .i64 k/\k<=l.length/\∃x:Xb w.heap.size w,wr=x.val) (λv _=>l.length-(intOf v).toNat)
 case atStart=>exact⟨0,rfl,Nat.zero_le _,Xb.refl _ _,rfl⟩
 case round=>
  obtain⟨k,rfl,hk,x,rfl⟩:=hrel;by_cases hT:k<l.length
  ·have hK:k<l'.length:=by rw[<-HL.out];exact hT
   obtain⟨b,off,hA,hb,hD⟩:=HS.out.2.2 (show 0<l.length by omega);obtain⟨b',off',hU,pN,hC⟩:=pC.out.2.2 (show 0<l'.length by omega);simp only at hA hU;subst hA;subst hU;obtain⟨s,hx⟩:∃s,l[k]? =some s:=⟨l[k],lgE hT⟩
   obtain⟨s',hI⟩:∃s,l'[k]? =some s:=⟨l'[k],lgE hK⟩
   have hV:s.pl=s'.pl:=by
    have h1:=congrArg (λ(m:List Yi)=>m[k]?) HP.out;simp only[List.getElem?_map,hx,hI,Option.map_some,Option.some.injEq] at h1;exact h1
   have hW:=pD.out s (lmg hx);have hX:=pE.out s' (lmg hI);have he:=λx:Xb w.heap.size w=>Xd.elem hx (show b<w.heap.size by omega) hD x;have pF:=λx:Xb w.heap.size w=>Xd.elem hI (show b'<w.heap.size by omega) hC x;obtain⟨W1,hY,hZ,hL,hM⟩:=bxst x.val s
   obtain⟨W,pA,pO,hN,hO⟩:=bxst W1 s';have hG:=(hN.block _ (by omega)).trans hM;rw[hZ] at hO;have hE:Below w.heap.size w W:=x.below.trans ((hL.mono x.size).trans (hN.mono (by have:=x.size;omega)));have pG:=pF ⟨W1,x.below.trans (hL.mono x.size)⟩
   simp only at pG;have pH:=Xd.boxed (B:=W.heap.size) hG (by omega) (Xb.refl _ _);have hP:=Xd.boxed (B:=W1.heap.size) hM (by omega) (Xb.refl _ _);have pI:=Xd.boxed (B:=W.heap.size) hO (by omega) (Xb.refl _ _);simp only[Xb.refl] at pH pI hP;have pJ:=Xa hY;have pK:=Xa pA;have KS:=Xa (Xc.first (XmV s s' hV W W.heap.size nr (hW.to (hE.mono hB) (Nat.le_trans hB hE.size)) (hX.to (hE.mono hB) (Nat.le_trans hB hE.size))));have pB:=Xa hE;have pP:(k:Int)<(l.length:Int):=by omega
   have pQ:(0:Int)<=(k:Int):=by omega
   clear hD hC hx hI hY pA hM hO hG hL hN hE hW hX hV;go_upto_region 6 with fail;rw[<-pJ.out];go_upto_region 7 with fail;rw[<-hZ,<-pK.out];go_wp2_with (go_at_call 33;refine KS.out.mono ?_;rintro e w' ⟨rfl,y,rfl⟩)
   exact⟨⟨k+1,by go_num,by omega,⟨_,pB.out.trans (y.below.mono pB.out.size)⟩,rfl⟩,by simp[intOf];omega⟩
  ·go_wp2;go_ret;exact Xc.mk rfl x.below
theorem Xjz(h h':Xf)(hp:h.pl=h'.pl)(w:World)(B:Nat)(hB:B<=w.heap.size)(hx:Xf.at_ w B h)(hy:Xf.at_ w B h'):
 Calls Tryz.prog 10 #[.agg #[.string h.name,.int .i64 h.aH,.slice h.aA.A h.aA.l.length h.aA.cap,.slice h.aB.A h.aB.l.length h.aB.cap],.agg #[.string h'.name,.int .i64 h'.aH,.slice h'.aA.A h'.aA.l.length h'.aA.cap,.slice h'.aB.A h'.aB.l.length h'.aB.cap]] w (Xc w (.bool true)):=by
 obtain⟨nm,ht,⟨sA,sc,sl⟩,⟨rA,rc,rl⟩⟩:=h;obtain⟨nm',hW,⟨sA',sc',sl'⟩,⟨rA',rc',rl'⟩⟩:=h';simp only[Xf.pl,Xl.mk.injEq] at hp;obtain⟨rfl,rfl,hK,rfl⟩:=hp;simp only;obtain⟨W1,hL,hM,hN,hO⟩:=boxed w (.cells #[.string nm,.int .i64 ht,.slice sA sl.length sc,.slice rA rl.length rc] 25);obtain⟨W,hP,hR,hG,hH⟩:=boxed W1 (.cells #[.string nm,.int .i64 ht,.slice sA' sl'.length sc',.slice rA' rl.length rc'] 25);have hb:Below w.heap.size w W:=hN.trans (hG.mono (by omega));have hC:=(hG.block _ (by omega)).trans hO;rw[hM] at hH;have hI:=λy:Xb W.heap.size W=>Xf.boxed (h:=⟨nm,ht,⟨sA,sc,sl⟩,⟨rA,rc,rl⟩⟩) hC (by omega) y
 have hJ:=λy:Xb W.heap.size W=>Xf.boxed (h:=⟨nm,ht,⟨sA',sc',sl'⟩,⟨rA',rc',rl⟩⟩) hH (by omega) y;simp only at hI hJ;have hT:=And.intro (hI (Xb.refl _ _)) (hJ (Xb.refl _ _));simp only[Xb.refl] at hT;have hQ:=bdo hb;have hD:=hx.to (hb.mono hB) (show B<=W.heap.size by omega);have hE:=hy.to (hb.mono hB) (show B<=W.heap.size by omega);have K0:=Xa (Xc.first (XnJ rA rA' rc rc' rl W W.heap.size nr hD.aB hE.aB));have K1:=Xa (λy:Xb W.heap.size W=>Xc.after (x:=y) nr (Xpy sA sA' sc sc' sl sl' hK y.val W.heap.size y.size (hD.aA.to y.below nr) (hE.aA.to y.below nr) (λs hs=>(hD.each s hs).to y.below nr) (λs hs=>(hE.each s hs).to y.below nr)))
 have hU:=Xa hQ;have HW:=Xa (show(w.alloc (.cells #[.string nm,.int .i64 ht,.slice sA sl.length sc,.slice rA rl.length rc] 25)).alloc (.cells #[.string nm,.int .i64 ht,.slice sA' sl'.length sc',.slice rA' rl.length rc'] 25)=W by rw[<-hL,<-hP]);clear hL hP hM hR hN hG hO hH hC hD hE hx hy hQ hb hK;go_enter Tryz.func10,Tryz.ntmps10
 go_wp2_with (first
  |(go_at_call 31;rw[HW.out];refine K0.out.mono ?_;rintro e w' ⟨rfl,y1,rfl⟩;have hV:=And.intro (hI y1) (hJ y1))
  |(go_at_call 32;refine(K1.out y1).mono ?_;rintro e w' ⟨rfl,y2,rfl⟩))
 go_ret;exact Xc.mk rfl (hU.out _)
end Go.Proofs.YtdcahhbipeaggaaGreatDoor
namespace Go.Proofs.YtdcahhbipeaggaaGreatDoor
open Go Go.RowKit Go.Lib
theorem Xvt(w:World)(o1 o2 o3:Obj):∃V:World,V=((w.alloc o1).alloc o2).alloc o3/\V.heap.size=w.heap.size+3/\Below w.heap.size w V/\V.heap[w.heap.size]? =some o1/\V.heap[w.heap.size+1]? =some o2/\V.heap[w.heap.size+1+1]? =some o3:=by
 obtain⟨V1,hI,hJ,hK,hL⟩:=boxed w o1;obtain⟨V2,hM,hE,hD,hG⟩:=boxed V1 o2;obtain⟨V3,hN,hO,hC,hH⟩:=boxed V2 o3;rw[hJ] at hE hD hG;rw[hE] at hO hC hH;exact⟨V3,by rw[hN,hM,hI],by omega,(hK.trans (hD.mono (by omega))).trans (hC.mono (by omega)),(hC.block _ (by omega)).trans ((hD.block _ (by omega)).trans hL),(hC.block _ (by omega)).trans hG,hH⟩
end Go.Proofs.YtdcahhbipeaggaaGreatDoor
namespace Go.Proofs.YtdcahhbipeaggaaGreatDoor
open Go.RowKit
theorem Xv4(d:Nat)(a:ByteArray)(w:World):(Op.equalIn (d+1) 9 (.string a) (.string a)).run Tryz.prog w=.ok true w:=by
 simp only[Op.equalIn,Sem.run_bind,run_underlying Tryz.underlying9,Result.andThen_ok];have h:(a==a)=true:=by
  show(a.data==a.data)=true;simp
 simp[h]
theorem Xq7(a b:ByteArray)(w:World):(part 9 #[.string a,.string b] 0).run Tryz.prog w=.ok (.string a) w:=by kernel_rfl
theorem Xq6(a b:ByteArray)(w:World):(part 9 #[.string a,.string b] 1).run Tryz.prog w=.ok (.string b) w:=by kernel_rfl
theorem XvL(a b:ByteArray)(w:World):(Op.equal 73 (.agg #[.string a,.string b]) (.agg #[.string a,.string b])).run Tryz.prog w=.ok true w:=by
 have hc:Tryz.prog.cellsOf 9=1:=by kernel_rfl
 obtain⟨i,hi,_⟩:=info_parts (show(Tryz.prog.info? 9).map (λi=>(i.zero,i.size,i.bytes))=some (some (.string ⟨#[]⟩),1,16) by kernel_rfl);obtain⟨n,hn⟩:∃n,Op.maxDepth=n+1+1:=⟨9998,rfl⟩
 unfold Op.equal;rw[hn,run_equalIn_array (d:=n+1) (i:=i) (hu:=Tryz.underlying73) (hi:=hi),hc];rw[show List.range 2=[0,1] from rfl];simp[Op.eqItems,Xq7,Xq6,Xv4 n]
theorem XuL(a b:ByteArray)(w:World):(binOp .neq 73 (.agg #[.string a,.string b]) (.agg #[.string a,.string b])).run Tryz.prog w=.ok (.bool false) w:=by
 simp[binOp,go_sem,XvL]
theorem XhS(x:World)(o o':Obj):(((x.alloc o).alloc o').drew).heap[x.heap.size]? =some o/\(((x.alloc o).alloc o').drew).heap[x.heap.size+1]? =some o':=by
 have e:(x.alloc o).heap.size=x.heap.size+1:=by simp
 exact⟨(heap_alloc_old (x.alloc o) o' (by omega)).trans (heap_alloc_new x o),by rw[<-e];exact heap_alloc_new (x.alloc o) o'⟩
theorem Xjx(s s':Xq)(hp:s.pl=s'.pl)(w:World)(B:Nat)(hB:B<=w.heap.size)(hx:Xq.at_ w B s)(hy:Xq.at_ w B s'):
 Calls Tryz.prog 11 #[.agg #[.slice s.aC.A s.aC.l.length s.aC.cap,.slice s.apart.A s.apart.l.length s.apart.cap],.agg #[.slice s'.aC.A s'.aC.l.length s'.aC.cap,.slice s'.apart.A s'.apart.l.length s'.apart.cap]] w (Xc w (.bool true)):=by
 obtain⟨⟨cA,cc,cl⟩,⟨pA,pc,pl⟩⟩:=s;obtain⟨⟨cA',cc',cl'⟩,⟨pA',pc',pl'⟩⟩:=s';simp only[Xq.pl,Xp.mk.injEq] at hp;obtain⟨hT,rfl⟩:=hp;simp only;have hl:cl'.length=cl.length:=by have:=congrArg List.length hT;simpa using this.symm
 obtain⟨W1,pE,pF,hI,pG⟩:=boxed w (.cells #[.slice cA cl.length cc,.slice pA pl.length pc] 29);obtain⟨W,pH,pN,hG,hO⟩:=boxed W1 (.cells #[.slice cA' cl.length cc',.slice pA' pl.length pc'] 29);have hb:Below w.heap.size w W:=hI.trans (hG.mono (by omega));have hL:=(hG.block _ (by omega)).trans pG;rw[pF] at hO;have hJ:=λy:Xb W.heap.size W=>Xq.boxed (s:=⟨⟨cA,cc,cl⟩,⟨pA,pc,pl⟩⟩) hL (by omega) y;have hM:=λy:Xb W.heap.size W=>And.intro (y.cells hO (by omega) 0 _ rfl) (y.cells hO (by omega) 1 _ rfl);simp only at hJ;have pO:=And.intro (hJ (Xb.refl _ _)) (hM (Xb.refl _ _))
 simp only[Xb.refl] at pO;have pI:=bdo hb;have hU:=Xa (hx.to (hb.mono hB) (show B<=W.heap.size by omega));have hV:=Xa (hy.to (hb.mono hB) (show B<=W.heap.size by omega));have qE:cc<=9223372036854775807:=hx.aC.2.1;have qF:cl.length<=cc:=hx.aC.1;have qG:cc'<=9223372036854775807:=hy.aC.2.1;have pP:cl'.length<=cc':=hy.aC.1;have qH:pc<=9223372036854775807:=hx.apart.2.1;have qI:pl.length<=pc:=hx.apart.1;have qJ:pc'<=9223372036854775807:=hy.apart.2.1;have qK:pl.length<=pc':=hy.apart.1;have pQ:=Xa pI;have HP:=Xa hT;rw[hl] at pP ⊢;have HL:=Xa hl;have HW:=Xa (show(w.alloc (.cells #[.slice cA cl.length cc,.slice pA pl.length pc] 29)).alloc (.cells #[.slice cA' cl.length cc',.slice pA' pl.length pc'] 29)=W by rw[<-pE,<-pH])
 clear pE pH pF pN hI hG pG hO hL hx hy pI hb hT hl;have qPair:=XuL;go_enter Tryz.func11,Tryz.ntmps11;go_upto_region 1 with fail;rw[HW.out];go_wp2_with fail;go_loopw [5] (λv wr=>∃k:Nat,v=.int .i64 k/\k<=cl.length/\∃x:Xb W.heap.size W,wr=x.val) (λv _=>cl.length-(intOf v).toNat)
 case atStart=>exact⟨0,rfl,Nat.zero_le _,Xb.refl _ _,rfl⟩
 case round=>
  obtain⟨k,rfl,hk,x,rfl⟩:=hrel;have pR:=And.intro (hJ x) (hM x);by_cases pJ:k<cl.length
  ·have hW:k<cl'.length:=by rw[HL.out];exact pJ
   obtain⟨b,off,hA,hb,hD⟩:=hU.out.aC.2.2 (show 0<cl.length by omega);obtain⟨b',off',hE,pS,hC⟩:=hV.out.aC.2.2 (show 0<cl'.length by omega);simp only at hA hE;subst hA;subst hE;obtain⟨q,hq⟩:∃s,cl[k]? =some s:=⟨cl[k],lgE pJ⟩
   obtain⟨q',hP⟩:∃s,cl'[k]? =some s:=⟨cl'[k],lgE hW⟩
   have pK:q.pl=q'.pl:=by
    have h1:=congrArg (λ(m:List XW)=>m[k]?) HP.out;simp only[List.getElem?_map,hq,hP,Option.map_some,Option.some.injEq] at h1;exact h1
   have hQ:=hU.out.each q (lmg hq);have hR:=hV.out.each q' (lmg hP);have he:=λx:Xb W.heap.size W=>Xn.elem hq hb hD x;have hN:=λx:Xb W.heap.size W=>Xn.elem hP pS hC x;clear hD hC hq hP;obtain⟨nm,af,lk,dl,⟨mA,mc,ml⟩,cr,pw⟩:=q;obtain⟨nm',af',lk',dl',⟨mA',mc',ml'⟩,cr',pw'⟩:=q';simp only[Xn.pl,XW.mk.injEq] at pK;obtain⟨rfl,rfl,rfl,rfl,rfl,rfl,rfl⟩:=pK;simp only at he hN;have qL:(k:Int)<(cl.length:Int):=by omega
   have qM:(0:Int)<=(k:Int):=by omega
   have hex:=And.intro (he x) (hN x);have qN:mc<=9223372036854775807:=hQ.aD.2.1;have pT:ml.length<=mc:=hQ.aD.1;have pU:mc'<=9223372036854775807:=hR.aD.2.1;have pL:ml.length<=mc':=hR.aD.1;have pV:=Xa hQ;have pW:=Xa hR;clear hQ hR;have A1:∀o:Obj,Below W.heap.size W (x.val.alloc o):=λo=>x.below.alloc x.size o;have A2:∀o o':Obj,Below W.heap.size W ((x.val.alloc o).alloc o'):=λo o'=>(A1 o).alloc (A1 o).size o';have fA:=λo=>And.intro (hJ ⟨_,A1 o⟩) (And.intro (hM ⟨_,A1 o⟩) (And.intro (he ⟨_,A1 o⟩) (hN ⟨_,A1 o⟩)));have fAA:=λo o'=>And.intro (hJ ⟨_,A2 o o'⟩) (And.intro (hM ⟨_,A2 o o'⟩) (And.intro (he ⟨_,A2 o o'⟩) (hN ⟨_,A2 o o'⟩)))
   simp only at fA fAA;go_upto_region 6 with fail;go_cut [6,7] (λa c wx=>∃g g':Nat,a=.pointer (some ⟨g,0,none⟩)/\c=.pointer (some ⟨g',0,none⟩)/\wx.heap[g]? =some (.cells #[.string nm,.string af,.int .i64 lk,.int .i64 dl,.slice mA ml.length mc,.int .i64 cr,.int .i64 pw] 70 (0,0))/\wx.heap[g']? =some (.cells #[.string nm,.string af,.int .i64 lk,.int .i64 dl,.slice mA' ml.length mc',.int .i64 cr,.int .i64 pw] 70 (0,0))/\Below W.heap.size W wx)
   case first=>
    go_region
    all_goals
     go_wp2_with fail;go_meet
     first
      |exact⟨_,_,rfl,rfl,(XhS x.val _ _).1,(XhS x.val _ _).2,(A2 _ _).drew⟩
      |exact⟨_,_,rfl,rfl,(XhS x.val _ _).2,(XhS x.val _ _).1,(A2 _ _).drew⟩
   case rest=>
    obtain⟨g,g',rfl,rfl,hg,hX,hK⟩:=hcut;have pX:=(agS hg).1;have hY:=(agS hX).1;have hZ:=λy:Xb wc.heap.size wc=>Xn.boxed (q:=⟨nm,af,lk,dl,⟨mA,mc,ml⟩,cr,pw⟩) hg pX y;have hH:=λy:Xb wc.heap.size wc=>Xn.boxed (q:=⟨nm,af,lk,dl,⟨mA',mc',ml⟩,cr,pw⟩) hX hY y;simp only at hZ hH;have pB:=And.intro (hZ (Xb.refl _ _)) (hH (Xb.refl _ _));simp only[Xb.refl] at pB;have pY:=Xa (pV.out.aD.to hK hK.size);have pZ:=Xa (pW.out.aD.to hK hK.size);have pM:=Xa hK;clear hg hX hK fA fAA A1 A2 he hN hex
    go_wp2_with fail;go_loopw [8] (λv wr=>∃j:Nat,v=.int .i64 j/\j<=ml.length/\∃z:Xb wc.heap.size wc,wr=z.val) (λv _=>ml.length-(intOf v).toNat)
    case atStart=>exact⟨0,rfl,Nat.zero_le _,Xb.refl _ _,rfl⟩
    case round=>
     obtain⟨j,rfl,hj,z,rfl⟩:=hrel;have qA:=And.intro (hZ z) (hH z);by_cases pC:j<ml.length
     ·obtain⟨b1,off1,hA,hI,hD⟩:=pY.out.2.2 (show 0<ml.length by omega);obtain⟨b2,off2,hE,hG,hC⟩:=pZ.out.2.2 (show 0<ml.length by omega);simp only at hA hE;subst hA;subst hE;obtain⟨m,hm⟩:∃s,ml[j]? =some s:=⟨ml[j],lgE pC⟩
      have qB:=λx:Xb wc.heap.size wc=>Xw.elem hm hI hD x;have pD:=λx:Xb wc.heap.size wc=>Xw.elem hm hG hC x;have qC:(j:Int)<(ml.length:Int):=by omega
      have qD:(0:Int)<=(j:Int):=by omega
      clear hD hC hm;go_wp2_with fail;refine Xk z (by kernel_rfl) (by kernel_rfl) ?_
      repeat (go_big_quiet_step (fail))
      refine wpQuiet_nil ?_;intro z2;go_wp2_with fail;exact⟨⟨j+1,by go_num,by omega,_,rfl⟩,by simp[intOf];omega⟩
     ·go_wp2_with fail;exact⟨⟨k+1,by go_num,by omega,⟨_,pM.out.trans (z.below.mono pM.out.size)⟩,rfl⟩,by simp[intOf];omega⟩
  ·go_wp2_with fail;go_loopw [9] (λv wr=>∃j:Nat,v=.int .i64 j/\j<=pl.length/\∃z:Xb W.heap.size W,wr=z.val) (λv _=>pl.length-(intOf v).toNat)
   case atStart=>exact⟨0,rfl,Nat.zero_le _,x,rfl⟩
   case round=>
    obtain⟨j,rfl,hj,z,rfl⟩:=hrel;have qA:=And.intro (hJ z) (hM z);by_cases pC:j<pl.length
    ·obtain⟨b1,off1,hA,hI,hD⟩:=hU.out.apart.2.2 (show 0<pl.length by omega);obtain⟨b2,off2,hE,hG,hC⟩:=hV.out.apart.2.2 (show 0<pl.length by omega);simp only at hA hE;subst hA;subst hE;obtain⟨m,hm⟩:∃s,pl[j]? =some s:=⟨pl[j],lgE pC⟩
     have qB:=λx:Xb W.heap.size W=>Xb0 hm hI hD x;have pD:=λx:Xb W.heap.size W=>Xb0 hm hG hC x;have qC:(j:Int)<(pl.length:Int):=by omega
     have qD:(0:Int)<=(j:Int):=by omega
     clear hD hC hm;go_wp2_with fail;refine Xk z (by kernel_rfl) (by kernel_rfl) ?_
     repeat (go_big_quiet_step (fail))
     refine wpQuiet_nil ?_;intro z2;go_wp2_with fail;exact⟨⟨j+1,by go_num,by omega,_,rfl⟩,by simp[intOf];omega⟩
    ·go_wp2_with fail;go_ret;exact Xc.mk rfl (pQ.out _)
end Go.Proofs.YtdcahhbipeaggaaGreatDoor
