/- Lemmas for TopPrinted: Whole, LawBack, TimeLaw, FracText, Paper. -/
import Derived.Test.YtdcahhbipeaggaaGreatDoorSecJoin
set_option maxRecDepth 100000
set_option maxHeartbeats 16000000
namespace Go.Proofs.YtdcahhbipeaggaaGreatDoor
open Go.RowKit
theorem Xkg{α:Type}{cells:α->List Value}{size:Nat}(hs:∀x,(cells x).length=size):∀(l:List α) (i:Nat) (x:α) (j:Nat) (u:Value),l[i]? =some x->(cells x)[j]? =some u->(l.flatMap cells)[i*size+j]? =some u
 |[],i,x,j,u,h,_=>by simp at h
 |y::l,0,x,j,u,h,hu=>by
  simp at h;subst h;have hj:j<(cells y).length:=(lgS hu).1;rw[List.flatMap_cons,Nat.zero_mul,Nat.zero_add,List.getElem?_append_left hj];exact hu
 |y::l,i+1,x,j,u,h,hu=>by
  have h':l[i]? =some x:=by simpa using h
  rw[List.flatMap_cons,List.getElem?_append_right (by rw[hs y,Nat.succ_mul];omega),hs y,show(i+1)*size+j-size=i*size+j by rw[Nat.succ_mul];omega];exact Xkg hs l i x j u h' hu
theorem XA.whole{α:Type}{w:World}{B size b:Nat}{cells:α->List Value}{cs:Array Value}{t:TypeId}{l:List α}(hs:∀x,(cells x).length=size)(h:w.heap[b]? =some (.cells cs t (0,0)))(hC:cs.toList=l.flatMap cells)(hb:b<B)(hl:l.length<=maxLen):
 XA w B size cells ⟨some ⟨b,0,none⟩,l.length,l⟩:=
 ⟨Nat.le_refl _,hl,λ_=>⟨b,0,rfl,hb,λi x hx j u hu=>by
  rw[Nat.zero_add,Lib.cell_of_heap h,<-Array.getElem?_toList,hC]
  exact Xkg hs l i x j u hx hu⟩⟩
theorem XA.nil{α:Type}{w:World}{B size:Nat}{cells:α->List Value}:XA w B size cells ⟨none,0,[]⟩:=⟨Nat.le_refl _,Nat.zero_le _,λh=>absurd h (by simp)⟩
end Go.Proofs.YtdcahhbipeaggaaGreatDoor
namespace Go.Proofs.YtdcahhbipeaggaaGreatDoor
open Go Go.RowKit
theorem XmK(h:Xl)(c:Xp):(Yn h=true/\YQ c=true/\(Xai h c).length<=262144/\Xg1 h c=.tuple #[.string ⟨(Xai h c).toArray⟩,.int .i64 0])\/
 Xg1 h c=.tuple #[.string ⟨#[]⟩,.int .i64 4]\/(Yn h=false/\Xg1 h c=.tuple #[.string ⟨#[]⟩,.int .i64 1])\/(Yn h=true/\YQ c=false/\Xg1 h c=.tuple #[.string ⟨#[]⟩,.int .i64 1]):=by
 unfold Xg1 Xg2;cases hv:Yn h with
 |false=>exact Or.inr (Or.inr (Or.inl ⟨rfl,by simp⟩))
 |true=>
  cases sv:YQ c with
  |false=>exact Or.inr (Or.inr (Or.inr ⟨rfl,rfl,by simp⟩))
  |true=>
   by_cases hl:(Xai h c).length<=262144
   ·exact Or.inl ⟨rfl,rfl,hl,by simp[hl]⟩
   ·exact Or.inr (Or.inl (by simp[hl]))
end Go.Proofs.YtdcahhbipeaggaaGreatDoor
namespace Go.Proofs.YtdcahhbipeaggaaGreatDoor
open Go.RowKit
theorem JL.moved{S:List Yi}:∀{ms:List Xw} {tr:List Int},JL S tr->Xec S ms->JL S (Zw S ms tr)
 |[],_,h,_=>h
 |m::ms,tr,h,hm=>by
  unfold Zw;rw[List.foldl_cons];refine JL.moved (ms:=ms) ?_ λx hx=>hm x (List.mem_cons_of_mem _ hx);obtain⟨j,s,hj,hs,h1,h2⟩:=hm m (List.mem_cons_self ..);rw[hj,Int.toNat_natCast];refine⟨by rw[List.length_set];exact h.1,λi n s' hn hC=> ?_⟩;by_cases e:i=j
  ·subst e;rw[hs] at hC;injection hC with hC;rw[List.getElem?_set_self (by rw[h.1];exact(lgS hs).1)] at hn;injection hn with hn;subst hC hn;exact⟨h1,h2⟩
  ·rw[List.getElem?_set_ne (Ne.symm e)] at hn;exact h.2 i n s' hn hC
theorem Xlm{h:Xf}(hv:Xv h=true):JL (h.aA.l.map Xd.pl) ((h.aA.l.map Xd.pl).map (·.high)):=by
 refine⟨List.length_map ..,λi n s hn hs=> ?_⟩;rw[List.getElem?_map,hs] at hn;injection hn with hn;subst hn;rw[List.getElem?_map] at hs;obtain⟨d,hd,rfl⟩:=Option.map_eq_some_iff.1 hs;rw[Xv,bae] at hv;have h1:=XJ.1 hv.2 i d hd;simp only[setAt,X0,Ju,bae,Xz] at h1;obtain⟨⟨⟨⟨⟨⟨⟨⟨⟨⟨⟨-,-⟩,h2⟩,h3⟩,-⟩,-⟩,-⟩,-⟩,-⟩,-⟩,-⟩,-⟩:=h1;exact⟨by show d.low<=d.high;omega,Int.le_refl _⟩
theorem Xg0{h:Xf}(hv:Xv h=true){Q:List XW}(hr:∀q∈Q,ZY (h.aA.l.map Xd.pl) q=true):∀i,JL (h.aA.l.map Xd.pl) (JT (h.aA.l.map Xd.pl) Q i)
 |0=>Xlm hv
 |i+1=>by
  have ih:=Xg0 hv hr i;cases e:Q[i]? with
  |none=>
   have:Q.take (i+1)=Q.take i:=by rw[List.take_add_one,e];simp
   unfold JT at ih ⊢;rw[this];exact ih
  |some q=>
   rw[XiH e];exact ih.moved (XcE (hr q (lmg e)))
structure Xn9(a:Nat×Nat):Prop where
 pos:0<a.2
 den:a.2<=1152921504606846976
 num:a.1<=1152921504606846
theorem Xur{d:Nat}{m:Xw}(hm:QI m=true)(hd:d<=1048576):Xn9 (QN d m,Jb d m):=by
 have hC:=XpY hm hd;refine⟨hC.pos,hC.den,?_⟩;obtain⟨-,-,-,h4,h5⟩:=Qf.1 hm;by_cases h0:d=0
 ·subst h0;simp[QN]
 obtain⟨t1,t2⟩:=XeO hm (show 0<d by omega);obtain⟨w,hw⟩:∃w,w=Xgs d m:=⟨_,rfl⟩
 obtain⟨R,hR⟩:∃R,R=m.rise.toNat:=⟨_,rfl⟩
 obtain⟨F,hF⟩:∃F,F=m.fall.toNat:=⟨_,rfl⟩
 have hD:1<=R/\R<=16384:=by omega
 have hE:1<=F/\F<=16384:=by omega
 unfold QN;rw[if_neg h0,<-hw,<-hR,<-hF];rw[<-hw] at t1 t2;clear hw hR hF h4 h5 hC;have a1:2*d<=2*1048576:=by omega
 have a2:2*d*R<=2*1048576*16384:=Nat.mul_le_mul a1 hD.2;have a3:2*d*R*F<=2*1048576*16384*16384:=Nat.mul_le_mul a2 hE.2;have b1:w*w<=8192*8192:=Nat.mul_le_mul t2 t2;have b2:w*w*(R+F)<=8192*8192*32768:=Nat.mul_le_mul b1 (by omega);show 2*d*R*F+w*w*(R+F)<=_;omega
theorem Xqg{h:Xf}(hv:Xv h=true){tr:List Int}(hC:JL (h.aA.l.map Xd.pl) tr):∀(ms:List Xw) (a:Nat×Nat),Xn9 a->Xec (h.aA.l.map Xd.pl) ms->(∀m∈ms,QI m=true)->Xn9 (ms.foldl (λa m=>longer a (Xif (h.aA.l.map Xd.pl) tr m)) a)
 |[],a,ha,_,_=>ha
 |m::ms,a,ha,hm,hk=>by
  rw[List.foldl_cons];refine Xqg hv hC ms _ ?_ (λx hx=>hm x (List.mem_cons_of_mem _ hx)) λx hx=>hk x (List.mem_cons_of_mem _ hx);unfold longer;split
  ·obtain⟨j,s,hj,hs,h1,h2⟩:=hm m (List.mem_cons_self ..);have hl:j<tr.length:=by rw[hC.1];exact(lgS hs).1
   obtain⟨n,hn⟩:∃n,tr[j]? =some n:=⟨_,lgE hl⟩
   have h3:=hC.2 j n s hn hs;have h4:=XtB hv s (lmg hs);have e:Xif (h.aA.l.map Xd.pl) tr m=(QN (m.to-n).natAbs m,Jb (m.to-n).natAbs m):=by
    unfold Xif;rw[hj,Int.toNat_natCast,List.getD_eq_getElem?_getD,hn];rfl
   rw[e];exact Xur (hk m (List.mem_cons_self ..)) (by omega)
  ·exact ha
theorem Xph{h:Xf}(hv:Xv h=true){tr:List Int}(hC:JL (h.aA.l.map Xd.pl) tr){q:XW}(hr:ZY (h.aA.l.map Xd.pl) q=true):Xn9 (Xa9 (h.aA.l.map Xd.pl) tr q.aD):=
 Xqg hv hC q.aD _ ⟨by simp,by simp,by simp⟩ (XcE hr) λm hm=>by
  obtain⟨i,hi⟩:=List.getElem?_of_mem hm;exact Qf.2 (XcG ((Q3.1 hr).2 i m hi)).1
def msF(a:Nat×Nat):Int:= -(-(fmk (1000*(a.1:Int)) (1*a.2)).1/((fmk (1000*(a.1:Int)) (1*a.2)).2:Int))
def Jg(S:List Yi)(Q:List XW):Nat->List Int
 |0=>[]
 |k+1=>Jg S Q k++(match Q[k]? with|some q=>[msF (Xa9 S (JT S Q k) q.aD)]|none=>[])
theorem XiP{S:List Yi}{Q:List XW}{k:Nat}{q:XW}(h:Q[k]? =some q):Jg S Q (k+1)=Jg S Q k++[msF (Xa9 S (JT S Q k) q.aD)]:=by
 show Jg S Q k++(match Q[k]? with|some q=>_|none=>[])=_;rw[h]
theorem J2(S:List Yi)(Q:List XW):∀k,k<=Q.length->(Jg S Q k).length=k
 |0,_=>rfl
 |k+1,h=>by rw[XiP (lgE (show k<Q.length by omega)),List.length_append,J2 S Q k (by omega)];rfl
end Go.Proofs.YtdcahhbipeaggaaGreatDoor
namespace Go.Proofs.YtdcahhbipeaggaaGreatDoor
open Go Go.RowKit
def Xf5(n:Int)(d:Nat):List UInt8:=if d=1 then Lib.itoa n else Lib.itoa n++47::Lib.itoa (d:Int)
theorem XrR(n:Int)(d:Nat)(h:Xgn n d)(w:World)(ht:J9 w):Calls Tryz.prog 141 #[.agg #[.int .i64 n,.int .i64 (d:Int)]] w (Xc w (.string ⟨(Xf5 n d).toArray⟩)):=by
 have b1:=h.num1;have b2:=h.num2;have b3:=h.den1;have b4:=h.den2;obtain⟨W,hW,hL,hE,hI⟩:=boxed w (.cells #[.int .i64 n,.int .i64 (d:Int)] 110);have hG:=ht.below hE;have hM:=λy:Xb W.heap.size W=>Xi ((y.below.block w.heap.size (by omega)).trans hI);have hJ:=bdo hE;have hH:=hM (Xb.refl _ _);simp only[Xb.refl] at hH;have K1:=Xa (λy:Xb W.heap.size W=>Xc.after (x:=y) nr (XfO n ⟨by omega,by omega⟩ y.val (hG.below y.below)));have K2:=Xa (λy:Xb W.heap.size W=>Xc.after (x:=y) nr (XfO (d:Int) ⟨by omega,by omega⟩ y.val (hG.below y.below)));have hK:=Xa hJ
 have HW:=Xa hW;clear hW hL hE hI hJ hG;by_cases hd:d=1
 ·have e:Xf5 n d=Lib.itoa n:=by simp[Xf5,hd]
  have hN:((d:Int)==1)=true:=by simp[hd]
  rw[e];clear hd e;go_enter Tryz.func141,Tryz.ntmps141;go_upto_region 1 with fail;rw[<-HW.out,show W=(Xb.refl W.heap.size W).val from rfl];go_wp2_with (go_at_call 75;refine(K1.out _).mono ?_;rintro e w' ⟨rfl,y,rfl⟩)
  go_ret;exact Xc.mk rfl (hK.out y)
 ·have hN:((d:Int)==1)=false:=by simp;omega
  have hO:¬(d:Int)=1:=by omega
  obtain⟨S1,hC⟩:∃S,S=(⟨(Lib.itoa n).toArray⟩:ByteArray):=⟨_,rfl⟩
  obtain⟨S2,hD⟩:∃S,S=(⟨(Lib.itoa (d:Int)).toArray⟩:ByteArray):=⟨_,rfl⟩
  have l1:S1.size<=21:=by rw[hC];exact Lib.itoa_length_le n (by omega) (by omega)
  have l2:S2.size<=21:=by rw[hD];exact Lib.itoa_length_le (d:Int) (by omega) (by omega)
  rw[<-hC] at K1;rw[<-hD] at K2;have HS:=Xa (And.intro hC hD);clear hC hD;have hP:¬9223372036854775807<S1.size+1:=by omega
  have hQ:¬9223372036854775807<S1.size+1+S2.size:=by omega
  go_enter Tryz.func141,Tryz.ntmps141;go_upto_region 1 with fail;rw[<-HW.out,show W=(Xb.refl W.heap.size W).val from rfl];go_wp2_with fail;refine Xk (Xb.refl W.heap.size W) (by kernel_rfl) (by kernel_rfl) ?_
  repeat (go_big_quiet_step (first
   |(go_at_call 75;exact K1.out _)
   |(go_at_call 75;exact K2.out _)))
  refine wpQuiet_nil ?_;intro z;go_wp2;go_ret;refine Xc.mk (show Value.string (S1++⟨#[47]⟩++S2)=_ from congrArg Value.string ?_) (hK.out z);rw[Xf5,if_neg hd,HS.out.1,HS.out.2];apply ByteArray.ext;simp[ByteArray.data_append]
theorem XrQ{n:Int}{d:Nat}(h:Xgn n d):(Xf5 n d).length<=43:=by
 have b1:=h.num1;have b2:=h.num2;have b4:=h.den2;have l1:=Lib.itoa_length_le n (by omega) (by omega);have l2:=Lib.itoa_length_le (d:Int) (by omega) (by omega);unfold Xf5;split
 ·omega
 ·rw[List.length_append,List.length_cons];omega
theorem Xmb(n:Int)(d:Nat)(h:Xgn n d)(w:World)(ht:J9 w):Calls Tryz.prog 89 #[.agg #[.int .i64 n,.int .i64 (d:Int)]] w (Xc w (.tuple #[.string ⟨(Xf5 n d).toArray⟩,.int .i64 0])):=by
 obtain⟨W,hW,hJ,hC,hE⟩:=boxed w (.cells #[.int .i64 n,.int .i64 (d:Int)] 110);have hG:=ht.below hC;have hH:=λy:Xb W.heap.size W=>Xi ((y.below.block w.heap.size (by omega)).trans hE);have hI:=bdo hC;have hD:=hH (Xb.refl _ _);simp only[Xb.refl] at hD;have K1:=Xa (λy:Xb W.heap.size W=>Xc.after (x:=y) nr (Xha h y.val));have K2:=Xa (λy:Xb W.heap.size W=>Xc.after (x:=y) nr (XrR n d h y.val (hG.below y.below)));have hK:=Xa hI;have HW:=Xa hW;clear hW hJ hC hE hI hG;go_enter Tryz.func89,Tryz.ntmps89;go_upto_region 1 with fail;rw[<-HW.out,show W=(Xb.refl W.heap.size W).val from rfl]
 go_wp2_with (first
  |(go_at_call 140;refine(K1.out _).mono ?_;rintro e w' ⟨rfl,y,rfl⟩;have hL:=hH y)
  |(go_at_call 141;refine(K2.out _).mono ?_;rintro e w' ⟨rfl,y2,rfl⟩))
 go_ret2;exact Xc.mk rfl (hK.out y2)
end Go.Proofs.YtdcahhbipeaggaaGreatDoor
namespace Go.Proofs.YtdcahhbipeaggaaGreatDoor
open Go.RowKit
inductive ZD where
 |str (s:ByteArray)
 |num (n:Int)
 |frac (n:Int) (d:Nat)
def ZD.val:ZD->Value
 |.str s=> .iface 9 (.string s)
 |.num n=> .iface 3 (.int .i64 n)
 |.frac n d=> .iface 110 (.agg #[.int .i64 n,.int .i64 (d:Int)])
def ZD.bytes:ZD->List UInt8
 |.str s=>s.data.toList
 |.num n=>Lib.itoa n
 |.frac n d=>Xf5 n d
def ZD.ok:ZD->Prop
 |.str s=>s.size<=1000
 |.num n=>I64 n
 |.frac n d=>Xgn n d
theorem ZD.len{y:ZD}(h:y.ok):y.bytes.length<=1000:=by
 cases y with
 |str s=>exact h
 |num n=>exact Nat.le_trans (Lib.itoa_length_le n h.1 h.2) (by decide)
 |frac n d=>exact Nat.le_trans (XrQ h) (by decide)
def XhE(ws:List ZD):Nat->List UInt8
 |0=>[]
 |k+1=>XhE ws k++(if 0<k then [32] else [])++(match ws[k]? with|some y=>y.bytes|none=>[])
theorem Xq9{ws:List ZD}{k:Nat}{y:ZD}(h:ws[k]? =some y):XhE ws (k+1)=XhE ws k++(if 0<k then [32] else [])++y.bytes:=by
 show XhE ws k++_++(match ws[k]? with|some y=>y.bytes|none=>[])=_;rw[h]
theorem Xiz{ws:List ZD}(hC:∀y∈ws,y.ok):∀k,(XhE ws k).length<=1001*k
 |0=>Nat.le_refl _
 |k+1=>by
  have ih:=Xiz hC k;show(XhE ws k++_++(match ws[k]? with|some y=>y.bytes|none=>[])).length<=_;rw[List.length_append,List.length_append];have h1:(if 0<k then [(32:UInt8)] else []).length<=1:=by split<;>simp
  have h2:(match ws[k]? with|some y=>y.bytes|none=>[]:List UInt8).length<=1000:=by
   cases h:ws[k]? with
   |none=>simp
   |some y=>exact ZD.len (hC y (lmg h))
  omega
def Xaz(ws:List ZD):List UInt8:=XhE ws ws.length++[10]
theorem Xd7{ws:List ZD}(hC:∀y∈ws,y.ok):(Xaz ws).length<=1001*ws.length+1:=by
 have:=Xiz hC ws.length;unfold Xaz;rw[List.length_append];simp only[List.length_cons,List.length_nil];omega
def QX(W:World)(b:Nat)(X:List UInt8)(x:World):Prop:=BSt 102 [.int .i64 0] W b X x
def Xoa(w w':World):Prop:=Xas 102 w w'
theorem Xt0:Xqv 102 3:=by unfold Xqv;kernel_rfl
theorem XeL{W x:World}{b:Nat}{X:List UInt8}(st:QX W b X x)(s:ByteArray)(hlen:X.length+s.size<=140737488355328):
 Calls Tryz.prog 76 #[.pointer (some ⟨b,0,none⟩),.string s] x λe w'=>e=.returned (.tuple #[.int .i64 s.size,.nilIface])/\QX W b (X++s.data.toList) w'/\Xoa x w':=Xoc Xt0 (by decide) st s hlen
theorem QX.errno{W x:World}{b:Nat}{X:List UInt8}(h:QX W b X x):x.cell? ⟨b,2,none⟩=some (.int .i64 0):=by
 obtain⟨p,v,-,hb,-⟩:=h.blk;rw[Lib.cell_of_heap hb];rfl
theorem XsA{W x:World}{b:Nat}{X:List UInt8}(h:QX W b X x):Below W.heap.size W x:=h.bel
theorem QX.more{W x y:World}{b:Nat}{X:List UInt8}(h:QX W b X x)(hb:Below x.heap.size x y):QX W b X y:=BSt.more h hb
def Xeb(x:World)(g:Nat)(ws:List ZD):Prop:=x.heap[g]? =some (.cells (ws.map ZD.val).toArray 20 (0,0))
theorem Xeb.keep{x y:World}{g:Nat}{ws:List ZD}(h:Xeb x g ws)(hk:Xoa x y):Xeb y g ws:=hk g _ _ _ (by decide) (by decide) h
theorem Xeb.cell{x:World}{g k:Nat}{ws:List ZD}{y:ZD}(h:Xeb x g ws)(hk:ws[k]? =some y):x.cell? ⟨g,k,none⟩=some y.val:=by
 rw[Lib.cell_of_heap h];simp[hk]
theorem XrC(n:Int)(h:I64 n)(w:World)(ht:J9 w):Calls Tryz.prog 75 #[.int .i64 n] w (Xc w (.string ⟨(Lib.itoa n).toArray⟩)):=
 (Tryz.strconv_Itoa n h.1 h.2 w ht.1).mono λe w' ⟨he,k,os,hw⟩=>⟨he,by rw[hw];exact Lib.below_grow _ w nr k os⟩
theorem XvW(v:Value)(w:World):(Instr.typeAssert (.iface 9 v) 20 9 true).run Tryz.prog w=.ok (.tuple #[v,.bool true]) w:=by kernel_rfl
theorem XvX(v:Value)(w:World):(Instr.typeAssert (.iface 3 v) 20 9 true).run Tryz.prog w=.ok (.tuple #[.string ⟨#[]⟩,.bool false]) w:=by kernel_rfl
theorem XvY(v:Value)(w:World):(Instr.typeAssert (.iface 3 v) 20 3 true).run Tryz.prog w=.ok (.tuple #[v,.bool true]) w:=by kernel_rfl
theorem XvZ(v:Value)(w:World):(Instr.typeAssert (.iface 110 v) 20 9 true).run Tryz.prog w=.ok (.tuple #[.string ⟨#[]⟩,.bool false]) w:=by kernel_rfl
theorem Xv0(v:Value)(w:World):(Instr.typeAssert (.iface 110 v) 20 3 true).run Tryz.prog w=.ok (.tuple #[.int .i64 0,.bool false]) w:=by kernel_rfl
theorem Xv1(v:Value)(w:World):(Instr.typeAssert (.iface 110 v) 20 110 true).run Tryz.prog w=.ok (.tuple #[v,.bool true]) w:=by kernel_rfl
theorem QP{W x:World}{b:Nat}{X:List UInt8}(st:QX W b X x)(ht:J9 W){g:Nat}(ws:List ZD)(hN:∀y∈ws,y.ok)(hE:Xeb x g ws)(hn:ws.length<=100)(hsz:X.length<=1000000000):
 Calls Tryz.prog 35 #[.pointer (some ⟨b,0,none⟩),.slice (some ⟨g,0,none⟩) ws.length ws.length] x λe w'=>e=.returned (.tuple #[])/\QX W b (X++Xaz ws) w'/\Xoa x w':=by
 have hR:=Xa st;have HT:=Xa ht;have hT:=Xa hN;have hO:=Xa hE;have hU:=Xa (Xiz hN);clear st ht hN hE;go_enter Tryz.func35,Tryz.ntmps35;go_wp2_with fail;go_loopw [13] (λv wr=>∃k:Nat,v=.int .i64 k/\k<=ws.length/\Hid (QX W b (X++XhE ws k) wr)/\Hid (Xoa x wr)) (λv _=>ws.length-(intOf v).toNat)
 case atStart=>exact⟨0,rfl,Nat.zero_le _,Xa (by rw[show XhE ws 0=[] from rfl,List.append_nil];exact hR.out),Xa (Xas.refl _ _)⟩
 case round=>
  obtain⟨k,rfl,hk,hG,hJ⟩:=hrel;have pE:=hU.out k;by_cases hW:k<ws.length
  ·obtain⟨y,hy⟩:∃y,ws[k]? =some y:=⟨_,lgE hW⟩
   have hc:=(hO.out.keep hJ.out).cell hy;have hC:=hT.out y (lmg hy);have hH:=Xa (Xq9 hy);obtain⟨Z,hZ⟩:∃Z,Z=X++XhE ws k++(if 0<k then [(32:UInt8)] else []):=⟨_,rfl⟩
   have pF:Z.length<=1000200000:=by
    rw[hZ,List.length_append,List.length_append];have:(if 0<k then [(32:UInt8)] else []).length<=1:=by split<;>simp
    omega
   have HZ:=Xa hZ;have pG:(0:Int)<=(k:Int)/\(k:Int)<(ws.length:Int):=by omega
   have KW:=Xa (λ(s:ByteArray) (hs:s.size<=1000) (U:World) (su:QX W b Z U)=>XeL su s (by omega));have hX:=(XsA hG.out)
   have hK:decide ((k:Int)>0)=decide (0<k):=by simp
   by_cases h0:0<k;have hY:decide ((k:Int)>0)=true:=by rw[hK];simpa using h0
   have KB:=Xa (XeL hG.out ⟨#[32]⟩ (by rw[List.length_append];simp[ByteArray.size];omega));have pA:=Xa (show X++XhE ws k++(#[(32:UInt8)]:Array UInt8).toList=Z by rw[HZ.out,if_pos h0]);rw[pA.out] at KB;clear hK;go_upto_region 5 with (go_at_call 76;refine KB.out.mono ?_;rintro e U ⟨rfl,st1,kp1⟩)
   rotate_left
   have hY:decide ((k:Int)>0)=false:=by rw[hK];simpa using h0
   have st1:QX W b Z wr:=by rw[HZ.out,if_neg h0,List.append_nil];exact hG.out
   have kp1:Xoa wr wr:=Xas.refl _ _;generalize wr=U at*;clear hK;go_upto_region 5 with fail
   all_goals
    have ST1:=Xa st1;have hP:=Xa (hJ.out.trans kp1);clear st1 kp1;have hL:=XsA ST1.out;have hD:=Xa (show X++XhE ws (k+1)=Z++y.bytes by rw[hH.out,<-List.append_assoc,<-List.append_assoc,<-HZ.out]);clear HZ hH hG hJ hX hc hZ hy;cases y with
    |str s=>
     have hI:=Xa (KW.out s hC U ST1.out);have t1:=XvW (.string s);simp only[ZD.val];go_wp2_with (go_at_call 76;refine hI.out.mono ?_;rintro e w2 ⟨rfl,st2,kp2⟩)
     exact⟨⟨k+1,by go_num,by omega,Xa (by rw[hD.out];exact st2),Xa (hP.out.trans kp2)⟩,by simp[intOf];omega⟩
    |num n=>
     have KI:=Xa (λx:Xb U.heap.size U=>Xc.after (x:=x) nr (XrC n hC x.val (HT.out.below (hL.trans (x.below.mono hL.size)))));have hI:=Xa (λz:Xb U.heap.size U=>KW.out ⟨(Lib.itoa n).toArray⟩ (ZD.len (y:=.num n) hC) z.val (ST1.out.more z.below));have t1:=XvX (.int .i64 n);have t2:=XvY (.int .i64 n);simp only[ZD.val];go_upto_region 11 with fail;refine XH U.heap.size 5 (by kernel_rfl) (by kernel_rfl) ?_;simp only[List.take_succ_cons,List.take_zero,List.drop_succ_cons,List.drop_zero]
     repeat (go_big_quiet_step ((go_at_call 75;exact KI.out _)))
     refine wpQuiet_nil ?_;intro z;go_wp2_with (go_at_call 76;refine(hI.out z).mono ?_;rintro e w2 ⟨rfl,st2,kp2⟩)
     exact⟨⟨k+1,by go_num,by omega,Xa (by rw[hD.out];exact st2),Xa ((hP.out.trans (Xas.below z.below)).trans kp2)⟩,by simp[intOf];omega⟩
    |frac n d=>
     have t1:=XvZ (.agg #[.int .i64 n,.int .i64 (d:Int)]);have t2:=Xv0 (.agg #[.int .i64 n,.int .i64 (d:Int)]);have t3:=Xv1 (.agg #[.int .i64 n,.int .i64 (d:Int)]);obtain⟨V,hV,pB,hM,hQ⟩:=boxed U (.cells #[.int .i64 n,.int .i64 (d:Int)] 110);have pH:=Xi hQ;have KF:=Xa (Xc.first (Xmb n d hC V (HT.out.below (hL.trans (hM.mono hL.size)))));have hI:=Xa (λz:Xb V.heap.size V=>KW.out ⟨(Xf5 n d).toArray⟩ (ZD.len (y:=.frac n d) hC) z.val ((ST1.out.more hM).more z.below));have pC:=Xa (λz:Xb V.heap.size V=>hP.out.trans ((Xas.below hM).trans (Xas.below z.below)))
     have HV:=Xa hV;clear hV pB hM hQ;simp only[ZD.val];go_upto_region 14 with fail;rw[<-HV.out]
     go_wp2_with (first
      |(go_at_call 89;refine KF.out.mono ?_;rintro e w2 ⟨rfl,z,rfl⟩)
      |(go_at_call 76;refine(hI.out z).mono ?_;rintro e w3 ⟨rfl,st2,kp2⟩))
     exact⟨⟨k+1,by go_num,by omega,Xa (by rw[hD.out];exact st2),Xa ((pC.out z).trans kp2)⟩,by simp[intOf];omega⟩
  ·have pD:k=ws.length:=by omega
   subst pD;have KB:=Xa (XeL hG.out ⟨#[10]⟩ (by rw[List.length_append];simp[ByteArray.size];omega));go_wp2_with (go_at_call 76;refine KB.out.mono ?_;rintro e w1 ⟨rfl,st1,kp1⟩)
   go_end0;exact⟨rfl,by rw[List.append_assoc] at st1;exact st1,hJ.out.trans kp1⟩
theorem XbL{W x:World}{b:Nat}{X:List UInt8}(st:QX W b X x):Calls Tryz.prog 39 #[.pointer (some ⟨b,0,none⟩)] x λe w'=>e=.returned (.tuple #[.string ⟨X.toArray⟩,.int .i64 0])/\Below W.heap.size W w':=by
 have hc:=st.errno;have KS:=Xa (XmN st);have HB:=Xa (And.intro st.bel st.le);clear st;go_enter Tryz.func39,Tryz.ntmps39;go_wp2_with (go_at_call 29;refine KS.out.mono ?_;rintro e w1 ⟨rfl,hb⟩)
 go_ret2;exact⟨rfl,HB.out.1.trans (hb.mono HB.out.2)⟩
end Go.Proofs.YtdcahhbipeaggaaGreatDoor
