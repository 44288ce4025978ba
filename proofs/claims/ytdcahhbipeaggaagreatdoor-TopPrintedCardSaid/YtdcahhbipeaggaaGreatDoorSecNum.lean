/- Lemmas for TopPrinted: LatTop, PlanSize, Order, SecNum. -/
import Derived.Test.YtdcahhbipeaggaaGreatDoorSrcAt
import Derived.Test.YtdcahhbipeaggaaGreatDoorCueFind
import Derived.Lib.OwnBridge
import Derived.WalkSmall
import Derived.Lib.Hide
import Derived.Test.YtdcahhbipeaggaaGreatDoorReadHouse
import Derived.Deep.OwnRows
import Derived.Deep.RegionWith
import Derived.Lib.UnsafeStr
set_option maxRecDepth 100000
set_option maxHeartbeats 16000000
namespace Go.Proofs.YtdcahhbipeaggaaGreatDoor
theorem Xea{st i:Nat}(h:st.testBit i=false)(j:Nat):(st+2^i).testBit j=(st.testBit j||decide (i=j)):=by
 have e:st+2^i=st|||2^i:=by
  have h2:=Nat.two_pow_add_eq_or_of_lt (i:=i) (b:=st % 2^i) (Nat.mod_lt _ (Nat.two_pow_pos i)) 1;apply Nat.eq_of_testBit_eq;intro k;rw[Nat.testBit_or,Nat.testBit_two_pow];have hd:st=2^i*(st/2^i)+st % 2^i:=(Nat.div_add_mod st (2^i)).symm;have hq:(st/2^i) % 2=0:=by
   have:=h;rw[Nat.testBit_eq_decide_div_mod_eq] at this;have h3:¬st/2^i % 2=1:=by simpa using this
   omega
  have he:st+2^i=2^i*(st/2^i+1)+st % 2^i:=by
   rw[Nat.mul_add,Nat.mul_one];omega
  rw[he,Nat.testBit_two_pow_mul_add _ (Nat.mod_lt _ (Nat.two_pow_pos i))];by_cases hk:k<i
  ·rw[if_pos hk,Nat.testBit_mod_two_pow];have:¬i=k:=by omega
   simp[hk,this]
  ·rw[if_neg hk];obtain⟨m,rfl⟩:∃m,k=i+m:=⟨k-i,by omega⟩
   have e2:st.testBit (i+m)=(st/2^i).testBit m:=by rw[Nat.testBit_div_two_pow];congr 1;omega
   rw[e2,Nat.add_sub_cancel_left];cases m with
   |zero=>
    rw[Nat.testBit_zero,Nat.testBit_zero];simp;omega
   |succ m=>
    rw[Nat.testBit_succ,Nat.testBit_succ,show(st/2^i+1)/2=st/2^i/2 by omega];simp
 rw[e,Nat.testBit_or,Nat.testBit_two_pow]
theorem Xkf{n j:Nat}:(2^n-1).testBit j=decide (j<n):=by rw[Nat.testBit_two_pow_sub_one]
theorem Xje{n st:Nat}(h:st<2^n){j:Nat}(hj:n<=j):st.testBit j=false:=Nat.testBit_lt_two_pow (Nat.lt_of_lt_of_le h (Nat.pow_le_pow_right (by decide) hj))
theorem Xo6{n st:Nat}(h:∀j,n<=j->st.testBit j=false):st<2^n:=Nat.lt_pow_two_of_testBit st h
theorem Xjk{n st i:Nat}(hC:st<2^n)(hi:i<n)(h:st.testBit i=false):st+2^i<2^n:=Xo6 λj hj=>by
 rw[Xea h,Xje hC hj];have:¬i=j:=by omega
 simp[this]
def Xan(I:Int)(cs:List Int)(st:Nat):Int:=I+((List.range cs.length).map λi=>if st.testBit i then cs.getD i 0 else 0).sum
theorem Xuu{l:List Nat}{f g:Nat->Int}{i:Nat}{d:Int}(hl:l.Nodup)(hi:i∈l)(h:∀j∈l,j≠i->f j=g j)(hd:f i=g i+d):(l.map f).sum=(l.map g).sum+d:=by
 induction l with
 |nil=>cases hi
 |cons a l ih=>
  rw[List.nodup_cons] at hl;simp only[List.map_cons,List.sum_cons];rcases List.mem_cons.1 hi with rfl|hi
  ·have:l.map f=l.map g:=List.map_congr_left λj hj=>h j (by simp[hj]) (λe=>hl.1 (e▸hj));rw[this,hd];omega
  ·rw[ih hl.2 hi (λj hj=>h j (by simp[hj])),h a (by simp) (λe=>hl.1 (e▸hi))];omega
theorem Xqm{I:Int}{cs:List Int}{st i:Nat}(hi:i<cs.length)(h:st.testBit i=false):Xan I cs (st+2^i)=Xan I cs st+cs.getD i 0:=by
 unfold Xan;rw[Xuu (f:=λj=>if (st+2^i).testBit j then cs.getD j 0 else 0) (g:=λj=>if st.testBit j then cs.getD j 0 else 0) (i:=i) (d:=cs.getD i 0) List.nodup_range (List.mem_range.2 hi) (λj _ hC=> ?_) ?_]
 ·omega
 ·simp only[Xea h,h];simp
 ·have h2:¬i=j:=λe=>hC e.symm;simp only[Xea h,h2,decide_false,Bool.or_false]
theorem Xty(I:Int)(cs:List Int):Xan I cs 0=I:=by
 unfold Xan;have:((List.range cs.length).map λi=>if (0:Nat).testBit i then cs.getD i 0 else 0)=(List.range cs.length).map λ_=>0:=List.map_congr_left λj _=>by simp
 rw[this];have h2:∀l:List Nat,(l.map λ_=>(0:Int)).sum=0:=λl=>by
  induction l with
  |nil=>rfl
  |cons a l ih=>rw[List.map_cons,List.sum_cons,ih];rfl
 rw[h2];omega
section
variable (held:Nat->Bool) (n:Nat)
inductive Rch:Nat->Prop
 |zero:held 0=true->Rch 0
 |step {st i:Nat}:Rch st->i<n->st.testBit i=false->held (st+2^i)=true->Rch (st+2^i)
inductive Lds:Nat->Prop
 |whole:held (2^n-1)=true->Lds (2^n-1)
 |step {st i:Nat}:held st=true->i<n->st.testBit i=false->Lds (st+2^i)->Lds st
inductive XhQ:Nat->List Nat->Prop
 |nil:XhQ (2^n-1) []
 |cons {st i:Nat} {l:List Nat}:i<n->st.testBit i=false->held (st+2^i)=true->XhQ (st+2^i) l->XhQ st (i::l)
end
section
variable {held:Nat->Bool} {n:Nat}
theorem Rch.ok{st:Nat}(h:Rch held n st):held st=true:=by cases h with
 |zero h=>exact h
 |step _ _ _ h=>exact h
theorem Lds.ok{st:Nat}(h:Lds held n st):held st=true:=by cases h with
 |whole h=>exact h
 |step h _ _ _=>exact h
def after(st:Nat)(l:List Nat):Nat:=l.foldl (λs i=>s+2^i) st
end
end Go.Proofs.YtdcahhbipeaggaaGreatDoor
namespace Go.Proofs.YtdcahhbipeaggaaGreatDoor
section
variable {held:Nat->Bool} {n:Nat}
theorem Xuv{st i:Nat}(h:st.testBit i=true):∃s,st=s+2^i/\s.testBit i=false:=by
 have hC:2^i<=st:=Nat.ge_two_pow_of_testBit h;refine⟨st-2^i,by omega,?_⟩;cases hb:(st-2^i).testBit i with
 |false=>rfl
 |true=>
  have h2:=Nat.testBit_two_pow_add_eq (st-2^i) i;rw[show 2^i+(st-2^i)=st by omega,h,hb] at h2;cases h2
def Xqa(good:Nat->Bool)(n st:Nat):Option Nat:=(List.range n).find? λi=> !st.testBit i&&good (st+2^i)
theorem XlL{good:Nat->Bool}(hg:∀st,st<2^n->(good st=true↔Lds held n st)){st:Nat}(hE:st<2^n)(hl:Lds held n st)(hw:st≠2^n-1):
 ∃i,Xqa good n st=some i/\i<n/\st.testBit i=false/\Lds held n (st+2^i):=by
 obtain⟨st',hC⟩:∃s,s=st:=⟨_,rfl⟩
 rw[<-hC] at hl;cases hl with
 |whole _=>exact absurd hC.symm hw
 | @step _ i h3 hi hb hG=>
  rw[hC] at hb hG;have hex:((List.range n).find? λi=> !st.testBit i&&good (st+2^i)).isSome=true:=by
   rw[List.find?_isSome];exact⟨i,List.mem_range.2 hi,by rw[hb];simpa using(hg _ (Xjk hE hi hb)).2 hG⟩
  obtain⟨i',hD⟩:=Option.isSome_iff_exists.1 hex;have h4:=List.find?_some hD;have h5:=List.mem_range.1 (List.mem_of_find?_eq_some hD);rw[bae,Bool.not_eq_true'] at h4;exact⟨i',hD,h5,h4.1,(hg _ (Xjk hE h5 h4.1)).1 h4.2⟩
end
end Go.Proofs.YtdcahhbipeaggaaGreatDoor
namespace Go.Proofs.YtdcahhbipeaggaaGreatDoor
open Go.RowKit
structure Yu where
 name:ByteArray
 aM:Bool
 weight:Int
def Yu.cells(j:Yu):List Value:=[.string j.name,.bool j.aM,.int .i64 j.weight]
structure Yu.ok(j:Yu):Prop where
 name:j.name.size<=maxLen
 weight:I64 j.weight
section
variable {W:World} {B b off:Nat} {t:TypeId}
theorem Yu.boxed{j:Yu}(hW:W.heap[b]? =some (.cells #[.string j.name,.bool j.aM,.int .i64 j.weight] t (0,0)))(hb:b<B)(x:Xb B W):x.val.cell? ⟨b,0,none⟩=some (.string j.name)/\x.val.cell? ⟨b,1,none⟩=some (.bool j.aM)/\x.val.cell? ⟨b,2,none⟩=some (.int .i64 j.weight):=⟨x.cells hW hb 0 _ rfl,x.cells hW hb 1 _ rfl,x.cells hW hb 2 _ rfl⟩
theorem Yu.elem{l:List Yu}{k:Nat}{s:Yu}(hs:l[k]? =some s)(hb:b<B)(hc:∀i x,l[i]? =some x->∀j u,(x.cells)[j]? =some u->W.cell? ⟨b,off+(i*3+j),none⟩=some u)(x:Xb B W):
 x.val.cell? ⟨b,off+k*3,none⟩=some (.string s.name)/\x.val.cell? ⟨b,off+k*3+1,none⟩=some (.bool s.aM)/\x.val.cell? ⟨b,off+k*3+2,none⟩=some (.int .i64 s.weight):=by
 have h:∀j u,s.cells[j]? =some u->x.val.cell? ⟨b,off+k*3+j,none⟩=some u:=λj u hu=>by rw[Nat.add_assoc];exact x.cell (hc k s hs j u hu) hb
 exact⟨h 0 _ rfl,h 1 _ rfl,h 2 _ rfl⟩
end
def J4(l:List Xu):Int:=(l.map (·.weight)).sum
def XfF(s:Xd):Int:=s.aM*(s.length/1000)
def X9(s:Xd):Int:=XfF s+J4 s.aF.l
def Yp(l:List Xo):Int:=(l.map λb=>b.weight*b.count).sum
def XbA(s:Xd):Int:=X9 s*s.aI-s.aN
def XaM(s:Xd):Int:=XbA s-Yp s.aE.l
def Xj8(s:Xd)(x:Yu):Int:=if x.aM then s.aI*x.weight else-x.weight
def XnC(s:Xd)(n:Int):Bool:=decide (-s.aJ<=n)&&decide (n<=s.aJ)
theorem Xnw{l:List Xu}{k:Nat}{x:Xu}(h:l[k]? =some x):J4 (l.take (k+1))=J4 (l.take k)+x.weight:=by
 unfold J4;rw[List.take_add_one,h];simp
theorem Xhr{l:List Xo}{k:Nat}{x:Xo}(h:l[k]? =some x):Yp (l.take (k+1))=Yp (l.take k)+x.weight*x.count:=by
 unfold Yp;rw[List.take_add_one,h];simp
theorem XnU{l:List Xo}{k:Nat}{x:Xo}(h:l[k]? =some x):counts (l.take (k+1))=counts (l.take k)+x.count:=by
 unfold counts;rw[List.take_add_one,h];simp
theorem XcK:∀(l:List Xu),(∀x∈l,0<=x.weight/\x.weight<=1048576)->0<=J4 l/\J4 l<=1048576*l.length
 |[],_=>by simp[J4]
 |x::l,h=>by
  have h1:=h x (by simp);have h2:=XcK l (λy hy=>h y (by simp[hy]));simp only[J4,List.map_cons,List.sum_cons,List.length_cons] at h2 ⊢;omega
theorem QC:∀(l:List Xo),(∀x∈l,1<=x.weight/\x.weight<=1048576/\0<=x.count/\x.count<=60)->0<=Yp l/\Yp l<=62914560*l.length
 |[],_=>by simp[Yp]
 |x::l,h=>by
  obtain⟨a,b,c,d⟩:=h x (by simp);have h2:=QC l (λy hy=>h y (by simp[hy]));have h3:0<=x.weight*x.count:=Int.mul_nonneg (by omega) c;have h4:x.weight*x.count<=1048576*60:=Int.mul_le_mul b d c (by omega);simp only[Yp,List.map_cons,List.sum_cons,List.length_cons] at h2 ⊢;omega
theorem ZN{s:Xd}(h:X0 s=true):(0<=s.aM/\s.aM<=1048576)/\(1000<=s.length/\s.length<=1048576)/\(0<=s.aN/\s.aN<=1048576)/\(1<=s.aI/\s.aI<=2)/\(0<=s.aJ/\s.aJ<=67108864)/\
 s.aF.l.length<=40/\s.aE.l.length<=8/\(∀x∈s.aF.l,0<=x.weight/\x.weight<=1048576)/\(∀x∈s.aE.l,1<=x.weight/\x.weight<=1048576/\0<=x.count/\x.count<=60):=by
 simp only[X0,Ju,XbX,YC,YK,Yb,Xg,bae,decide_eq_true_eq] at h;obtain⟨⟨⟨⟨⟨⟨⟨⟨⟨h1,h2⟩,h3⟩,h4⟩,h5⟩,h6⟩,⟨h7,hK⟩,h8⟩,⟨⟨⟨⟨h9,hC⟩,hD⟩,hL⟩,hE⟩⟩,hG,hH⟩,⟨hI,hJ⟩,hM⟩:=h;have mem:∀{α:Type} {p:Nat->α->Bool} {l:List α},X8 p l=true->∀x∈l,∃i,p i x=true:=λh x hx=>by
  obtain⟨j,hj,e⟩:=List.getElem_of_mem hx;exact⟨j,XJ.1 h j x (by rw[lgE hj,e])⟩
 refine⟨h9,h5,hC,hD,hE,hG,hI,λx hx=> ?_,λx hx=> ?_⟩
 ·obtain⟨i,hi⟩:=mem hH x hx;simp only[JE,bae] at hi;obtain⟨a0,a1,a2,a3,a4,a5,a6⟩:=XaK.1 hi.1;simp only[Xg,bae,decide_eq_true_eq] at a3;exact a3
 ·obtain⟨i,hi⟩:=mem hJ x hx;simp only[QD,J6,Xg,bae,decide_eq_true_eq] at hi;exact⟨hi.1.1.2.1,hi.1.1.2.2,hi.1.2.1,hi.1.2.2⟩
theorem QE{s:Xd}(h:X0 s=true): -4000000000<=XaM s/\XaM s<=4000000000/\0<=X9 s/\X9 s<=1200000000/\0<=XfF s/\XfF s<=1100000000:=by
 obtain⟨h1,h2,h3,h4,h5,h6,h7,h8,h9⟩:=ZN h;have i1:=XcK _ h8;have b1:=QC _ h9;have p1:0<=s.length/1000/\s.length/1000<=1048:=by omega
 have p2:0<=s.aM*(s.length/1000):=Int.mul_nonneg h1.1 p1.1;have p3:s.aM*(s.length/1000)<=1048576*1048:=Int.mul_le_mul h1.2 p1.2 p1.1 (by omega);have w1:0<=X9 s/\X9 s<=1200000000:=by unfold X9 XfF;omega
 have w2:0<=X9 s*s.aI:=Int.mul_nonneg w1.1 (by omega);have w3:X9 s*s.aI<=1200000000*2:=Int.mul_le_mul w1.2 h4.2 (by omega) (by omega);refine⟨?_,?_,w1.1,w1.2,p2,?_⟩
 ·unfold XaM XbA;omega
 ·unfold XaM XbA;omega
 ·unfold XfF;omega
def Xaf(x:Yu):Bool:=XF x.name&&Xg x.weight (-1048576) 1048576
def XbD(l:List Yu)(i:Nat)(x:Yu):Bool:=Xaf x&& !(l.take i).any (λy=>Xm y.name x.name)
def Y3(l:List Yu):Bool:=decide (l.length<=100)&&X8 (XbD l) l
theorem Xnt{l:List Yu}(h:100<(l.length:Int)):Y3 l=false:=by rw[Y3,decide_eq_false (by omega)];rfl
theorem XrB{l:List Yu}{k:Nat}{x:Yu}(hx:l[k]? =some x)(h:XbD l k x=false):Y3 l=false:=by rw[Y3,YP hx h,Bool.and_false]
theorem Xpk{l:List Yu}{k:Nat}(h:(l.length:Int)<=100)(hk:l.length<=k)(hu:YA (XbD l) l k):Y3 l=true:=by rw[Y3,decide_eq_true (by omega),hu.all hk];rfl
theorem Xte{l:List Yu}(h:Y3 l=true):l.length<=100/\∀x∈l,XF x.name=true/\ -1048576<=x.weight/\x.weight<=1048576:=by
 rw[Y3,bae,decide_eq_true_eq] at h;refine⟨h.1,λx hx=> ?_⟩;obtain⟨j,hj,e⟩:=List.getElem_of_mem hx;have h1:=XJ.1 h.2 j x (by rw[lgE hj,e]);simp only[XbD,Xaf,Xg,bae,decide_eq_true_eq] at h1;exact⟨h1.1.1,h1.1.2.1,h1.1.2.2⟩
theorem Xk8{s:Xd}{x:Yu}(hs:X0 s=true)(h1: -1048576<=x.weight)(h2:x.weight<=1048576): -2097152<=Xj8 s x/\Xj8 s x<=2097152:=by
 obtain⟨-,-,-,hp,-⟩:=ZN hs;unfold Xj8;cases x.aM
 ·simp only[Bool.false_eq_true,if_false];omega
 ·simp only[if_true];have:s.aI=1\/s.aI=2:=by omega
  rcases this with e|e<;>rw[e]<;>omega
end Go.Proofs.YtdcahhbipeaggaaGreatDoor
namespace Go.Proofs.YtdcahhbipeaggaaGreatDoor
def csE(s:Xd)(l:List Yu):List Int:=l.map (Xj8 s)
def ZK(s:Xd)(l:List Yu)(st:Nat):Bool:=XnC s (Xan (XaM s) (csE s l) st)
theorem Xvd(s:Xd)(l:List Yu):(csE s l).length=l.length:=List.length_map ..
end Go.Proofs.YtdcahhbipeaggaaGreatDoor
namespace Go.Proofs.YtdcahhbipeaggaaGreatDoor
open Go.RowKit
def Yo(h:Xf)(scale:Int):Int:=if Xv h=true then(if 1<=scale/\scale<=1048576 then 0 else 2) else 1
theorem Xi2{h:Xf}{scale:Int}(hh:Xv h=false):Yo h scale=1:=by simp[Yo,hh]
theorem Xf4{h:Xf}{scale:Int}(hh:Xv h=true)(hs:¬(1<=scale/\scale<=1048576)):Yo h scale=2:=by simp only[Yo,hh,if_true];rw[if_neg hs]
theorem XgF{h:Xf}{scale:Int}(hh:Xv h=true)(h1:1<=scale)(h2:scale<=1048576):Yo h scale=0:=by simp[Yo,hh,h1,h2]
theorem Qk{h:Xf}{scale:Int}(h0:Yo h scale=0):Xv h=true/\1<=scale/\scale<=1048576:=by
 unfold Yo at h0;split at h0
 ·split at h0
  ·exact⟨‹_›,‹_›⟩
  ·omega
 ·omega
def Xli(l:List Xd):Prop:=∀s∈l,0<=s.depth/\s.depth<=1048576/\1000<=s.length/\s.length<=1048576
theorem Xaj{h:Xf}(hh:Xv h=true):Xli h.aA.l:=λs hs=>by
 rw[Xv,bae] at hh;obtain⟨j,hj,e⟩:=List.getElem_of_mem hs;have h1:=XJ.1 hh.2 j s (by rw[lgE hj,e]);rw[setAt,bae,bae] at h1;have h2:=h1.1.1;rw[X0] at h2;simp only[bae] at h2;obtain⟨_,b,_,_,c,_⟩:=Xcw.1 h2.1.1.1.1;rw[Xz] at b c;omega
theorem Xvv(a b:Int):(if a<b then b else a)=max a b:=by rw[Int.max_def];split<;>split<;>omega
def ZI(l:List Xd)(scale:Int):Int:=l.foldl (λm s=>max m (s.depth/scale+1)) 0
def ZZ(l:List Xd)(scale:Int):Int:=l.foldl (λm s=>max m (s.length/scale+1)) 0
theorem XmW{l:List Xd}{k:Nat}{s:Xd}(scale:Int)(h:l[k]? =some s):ZI (l.take (k+1)) scale=max (ZI (l.take k) scale) (s.depth/scale+1):=by
 rw[List.take_add_one,h];simp[ZI,List.foldl_append]
theorem XnV{l:List Xd}{k:Nat}{s:Xd}(scale:Int)(h:l[k]? =some s):ZZ (l.take (k+1)) scale=max (ZZ (l.take k) scale) (s.length/scale+1):=by
 rw[List.take_add_one,h];simp[ZZ,List.foldl_append]
theorem Zs{n scale:Int}(h0:0<=n)(h1:n<=1048576)(hs:1<=scale):0<=n/scale/\n/scale<=1048576:=
 ⟨Int.ediv_nonneg h0 (by omega),Int.le_trans (Int.ediv_le_self _ h0) h1⟩
theorem XgE(h:Xf)(hE:h.ok)(scale:Int)(w:World)(B:Nat)(hB:B<=w.heap.size)(hG:Xf.at_ w B h):
 Calls Tryz.prog 44 #[.agg #[.string h.name,.int .i64 h.aH,.slice h.aA.A h.aA.l.length h.aA.cap,.slice h.aB.A h.aB.l.length h.aB.cap],.int .i64 scale] w (Xc w (.int .i64 (Yo h scale))):=by
 obtain⟨W,hW,hJ,hC,hH⟩:=bxhs w h;have hc:=λy:Xb W.heap.size W=>Xf.boxed hH (by omega) y;have hI:=bdo hC;have hv:=Yf h hE W W.heap.size nr (hG.to (hC.mono hB) (by omega));have HV:=Xa hv;have HW:=Xa hW;have hD:=Xa hI;clear hW hJ hH hC hI hG hE hv;cases hh:Xv h
 ·have HE:=Xa (Xi2 (scale:=scale) hh);go_enter Tryz.func44,Tryz.ntmps44;go_wp2_with (go_at_call 22;rw[<-HW.out];refine(Xc.first HV.out).mono ?_;rintro e w' ⟨rfl,y,rfl⟩)
  go_ret;exact Xc.mk (congrArg (Value.int IntKind.i64) HE.out.symm) (hD.out _)
 ·by_cases hs:1<=scale/\scale<=1048576
  ·obtain⟨hK,hL⟩:=hs;have HE:=Xa (XgF hh hK hL);go_enter Tryz.func44,Tryz.ntmps44;go_wp2_with (go_at_call 22;rw[<-HW.out];refine(Xc.first HV.out).mono ?_;rintro e w' ⟨rfl,y,rfl⟩)
   go_ret;exact Xc.mk (congrArg (Value.int IntKind.i64) HE.out.symm) (hD.out _)
  ·have HE:=Xa (Xf4 hh hs);have hM:scale<1\/1048576<scale:=by omega
   clear hs;rcases hM with hs|hs
   all_goals
    go_enter Tryz.func44,Tryz.ntmps44;go_wp2_with (go_at_call 22;rw[<-HW.out];refine(Xc.first HV.out).mono ?_;rintro e w' ⟨rfl,y,rfl⟩)
    go_ret;exact Xc.mk (congrArg (Value.int IntKind.i64) HE.out.symm) (hD.out _)
theorem XmQ(h:Xf)(hz:Xli h.aA.l)(scale:Int)(hJ:1<=scale)(hY:scale<=1048576)(w:World)(B:Nat)(hB:B<=w.heap.size)(hG:Xf.at_ w B h):
 Calls Tryz.prog 45 #[.agg #[.string h.name,.int .i64 h.aH,.slice h.aA.A h.aA.l.length h.aA.cap,.slice h.aB.A h.aB.l.length h.aB.cap],.int .i64 scale] w (Xc w (.tuple #[.int .i64 (ZI h.aA.l scale),.int .i64 (ZZ h.aA.l scale)])):=by
 obtain⟨W,hW,hR,hH,hK⟩:=bxhs w h;have hc:=λy:Xb W.heap.size W=>Xf.boxed hK (by omega) y;have hL:=bdo hH;have hM:XA W W.heap.size 13 Xd.cells h.aA:=hG.aA.to (hH.mono hB) (by omega);have hZ:h.aA.l.length<=h.aA.cap:=hG.aA.1;have hm:h.aA.cap<=9223372036854775807:=hG.aA.2.1;have hT:=Xa hM;have HW:=Xa hW;have hU:=Xa hL;have HZ:=Xa hz;clear hW hR hK hH hL hG hM hz;obtain⟨name,aH,⟨A,cap,l⟩,aB⟩:=h;simp only at*
 go_enter Tryz.func45,Tryz.ntmps45;go_wp2;rw[<-HW.out];go_loopw [4,5,11] (λr c v wr=>∃k:Nat,v=.int .i64 k/\k<=l.length/\r=.int .i64 (ZI (l.take k) scale)/\c=.int .i64 (ZZ (l.take k) scale)/\∃x:Xb W.heap.size W,wr=x.val) (λ_ _ v _=>l.length-(intOf v).toNat)
 case atStart=>exact⟨0,rfl,Nat.zero_le _,rfl,rfl,Xb.refl _ _,rfl⟩
 case round=>
  obtain⟨k,rfl,hk,rfl,rfl,x,rfl⟩:=hrel;by_cases hN:k<l.length
  ·obtain⟨b,off,hA,hb,hC⟩:=hT.out.2.2 (show 0<l.length by omega);simp only at hA;subst hA;have hx:l[k]? =some l[k]:=lgE hN;have he:=λx:Xb W.heap.size W=>Xd.elem hx hb hC x;obtain⟨d0,d1,l0,l1⟩:=HZ.out l[k] (List.getElem_mem hN);obtain⟨q0,q1⟩:=Zs d0 d1 hJ;obtain⟨p0,p1⟩:=Zs (show 0<=l[k].length by omega) l1 hJ;have HR:=Xa (XmW scale hx);have hO:=Xa (XnV scale hx);clear hC hx;obtain⟨W',hP,hI,hD,hE⟩:=boxed x.val (.cells #[.string l[k].name,.int .i64 l[k].depth,.int .i64 l[k].low,.int .i64 l[k].high,.int .i64 l[k].length,.slice l[k].aG.A l[k].aG.l.length l[k].aG.cap,.int .i64 l[k].aM,.int .i64 l[k].aN,.int .i64 l[k].aI,.int .i64 l[k].most,.int .i64 l[k].aJ,.slice l[k].aF.A l[k].aF.l.length l[k].aF.cap,.slice l[k].aE.A l[k].aE.l.length l[k].aE.cap] 57)
   have pA:=λy:Xb W'.heap.size W'=>Xd.boxed hE (by omega) y;have hQ:∀y:Xb W'.heap.size W',Below W.heap.size W y.val:=λy=>x.below.trans ((hD.mono x.size).trans (y.below.mono (by have:=x.size;omega)));have hV:=Xa hP;have hX:=Xa hQ;clear hP hI hE hD hQ;go_wp2;rw[<-hV.out];refine Yq W'.heap.size (by kernel_rfl) (by kernel_rfl) ?_
   repeat (go_big_quiet_step (fail))
   refine wpQuiet_nil ?_;intro z;go_wp2;exact⟨⟨k+1,by go_num,by omega,by first|rw[HR.out,Xvv]|rw[HR.out],by first|rw[hO.out,Xvv]|rw[hO.out],⟨_,hX.out _⟩,rfl⟩,by simp[intOf];omega⟩
  ·obtain rfl:k=l.length:=by omega
   go_wp2;go_ret2;exact Xc.mk (by simp) (hU.out _)
end Go.Proofs.YtdcahhbipeaggaaGreatDoor
namespace Go.Proofs.YtdcahhbipeaggaaGreatDoor
open Go.RowKit
def dep(l:List Xd)(k:Nat):Int:=(l.map (·.depth)).getD k 0
theorem XtW{l:List Xd}{k:Nat}{s:Xd}(h:l[k]? =some s):dep l k=s.depth:=by simp[dep,h]
theorem Xk5{l:List Xd}(hz:Xli l)(k:Nat):0<=dep l k/\dep l k<=1048576:=by
 rcases Nat.lt_or_ge k l.length with h|h
 ·rw[XtW (lgE h)];have:=hz _ (List.getElem_mem h);omega
 ·simp[dep,List.getElem?_eq_none h]
structure XdY(w:World)(hb b off cap:Nat)(l:List Xd):Prop where
 row:w.cell? ⟨hb,2,none⟩=some (.slice (some ⟨b,off,none⟩) l.length cap)
 cells:∀k,k<l.length->w.cell? ⟨b,off+k*13+1,none⟩=some (.int .i64 (dep l k))
theorem XrK:(Tryz.prog.info? 3).map (λi=>(i.zero,i.size,i.bytes))=some (some (.int .i64 0),1,8):=by kernel_rfl
theorem Xj2:∀args w,(callFunc 88 args).run Tryz.prog w=.ok (.enter 88 args) w:=XZ Tryz.func88 (by kernel_rfl) rfl
theorem XoR{l:List Xd}(hz:Xli l){hb b off cap i k:Nat}(hi:i<l.length)(hk:k<l.length)(w:World)(h:XdY w hb b off cap l):
 Calls Tryz.prog 88 #[.int .i64 (i:Int),.int .i64 (k:Int),.pointer (some ⟨hb,0,none⟩)] w λe w'=>e=.returned (.int .i64 (dep l i-dep l k))/\∃q,w'=w.drewN q:=by
 obtain⟨a0,a1⟩:=Xk5 hz i;obtain⟨b0,b1⟩:=Xk5 hz k;have c0:=h.row;have c1:=h.cells i hi;have c2:=h.cells k hk;have i0:(0:Int)<=(i:Int):=by omega
 have i1:(i:Int)<(l.length:Int):=by omega
 have k0:(0:Int)<=(k:Int):=by omega
 have k1:(k:Int)<(l.length:Int):=by omega
 have hC:IntKind.i64.wrap (dep l i-dep l k)=dep l i-dep l k:=by rw[IntKind.wrap_i64];omega
 clear h;generalize dep l i=x at*;generalize dep l k=y at*;go_enter Tryz.func88,Tryz.ntmps88;go_wp2_with fail;go_quiet (fail);go_wp2;go_ret;exact⟨rfl,_,rfl⟩
def XdE{n:Nat}(x:Fin n):Value:=.int .i64 (x.val:Int)
theorem XnP{n:Nat}:OneCell (XdE (n:=n)):=λ_=>rfl
theorem Xm7{m:Nat}{l:List Xd}(hl:l.length=m+1)(hz:Xli l){hb b off cap g:Nat}(w:World)(h:XdY w hb b off cap l)(h1:hb<w.heap.size)(h2:b<w.heap.size)(h3:hb≠g)(h4:b≠g)(size:Nat):
 CmpReads Tryz.prog 88 #[.pointer (some ⟨hb,0,none⟩)] (XdE (n:=m+1)) (λx y=>dep l x.val-dep l y.val) g 0 size w:=by
 intro n os dk hd x y;have key:∀p:Addr,p.block≠g->p.block<w.heap.size->(sortWorld (XdE (n:=m+1)) w g 0 n dk os).cell? p=w.cell? p:=λp hp hC=>by
  unfold sortWorld;rw[Sort.cell?_grow _ _ _ (by simpa using hC),Sort.cell?_putRow_other _ _ _ _ _ _ (Or.inl hp)];rfl
 have hr:XdY (sortWorld (XdE (n:=m+1)) w g 0 n dk os) hb b off cap l:=⟨(key ⟨hb,2,none⟩ h3 h1).trans h.row,λk hk=>(key ⟨b,off+k*13+1,none⟩ h4 h2).trans (h.cells k hk)⟩
 exact XoR hz (by rw[hl];exact x.isLt) (by rw[hl];exact y.isLt) _ hr
def XbS(w:World)(g:Nat)(l:List Nat):Prop:=∃cs fr,w.heap[g]? =some (.cells cs 3 fr)/\∀(j x:Nat),l[j]? =some x->cs[j]? =some (.int .i64 (x:Int))
theorem XbS.lt{w:World}{g:Nat}{l:List Nat}(h:XbS w g l):g<w.heap.size:=by obtain⟨cs,fr,h1,_⟩:=h;exact(agS h1).1
theorem XbS.cell{w:World}{g j x:Nat}{l:List Nat}(h:XbS w g l)(hx:l[j]? =some x):w.cell? ⟨g,j,none⟩=some (.int .i64 (x:Int)):=by
 obtain⟨cs,fr,h1,h2⟩:=h;rw[Lib.cell_of_heap h1];exact h2 j x hx
theorem XaE{α:Type}[Inhabited α](enc:α->Value){w:World}{g:Nat}(d:Array α){cur:Array Value}{t:TypeId}(hg:w.heap[g]? =some (.cells cur t (0,0))):(Sort.putRow enc w g 0 d).heap[g]? =some (.cells (Sort.putCells enc 0 d cur) t (0,0)):=by
 simp[Sort.putRow,Sort.mapBlock,Array.getElem?_modify,hg,Sort.onCells]
def Xv7(l:List Xd)(g:Nat)(w:World)(e:Ending)(w':World):Prop:=e=.returned (.tuple #[])/\Below g w w'/\XbS w' g (ZJ (dep l) l.length)
theorem Xtm{m:Nat}{l:List Xd}(hl:l.length=m+1)(hm:m<19)(hz:Xli l){hb b off cap g gcap:Nat}(w:World)(h:XdY w hb b off cap l)(h1:hb<w.heap.size)(h2:b<w.heap.size)(h3:hb≠g)(h4:b≠g)
 {cur:Array Value} (hg:w.heap[g]? =some (.cells cur 3 (0,0))) (hH:Sort.Holds (XdE (n:=m+1)) w g 0 (Ze (m+1)).toArray):
 Calls Tryz.prog 151 #[.slice (some ⟨g,0,none⟩) l.length gcap,.int .i64 0,.int .i64 (l.length:Int),.func (.func 88) #[] #[.pointer (some ⟨hb,0,none⟩)]] w (Xv7 l g w):=by
 have hd:(Ze (m+1)).toArray.size=m+1:=by simp[XbM]
 have hC:ltOf (λx y:Fin (m+1)=>dep l x.val-dep l y.val)=λa b=>decide (dep l a.val<dep l b.val):=by
  funext x y
  simp only[ltOf,decide_eq_decide];omega
 have key:=Any.insertionSortCmpFunc_one Tryz.insL (XdE (n:=m+1)) XnP (λx y=>dep l x.val-dep l y.val) 88 #[.pointer (some ⟨hb,0,none⟩)] g 0 gcap 0 (m+1) (Ze (m+1)).toArray w Xj2
  (Xm7 hl hz w h h1 h2 h3 h4 _) hH nzl (by rw[hd];exact Nat.le_refl _) (by rw[hd];omega)
 rw[hd,hC] at key;rw[hl];refine Calls.mono key ?_;rintro e w' ⟨he,q,rfl⟩;have hs:=Xfq m (λx:Fin (m+1)=>dep l x.val) (dep l) (λ_=>rfl);have hsz:(Sort.insertionSort (λa b:Fin (m+1)=>decide (dep l a.val<dep l b.val)) (Ze (m+1)).toArray 0 (m+1)).size=m+1:=by
  have:=congrArg List.length hs;rw[List.length_map,Xad,Array.length_toList] at this;exact this
 have hp:=Sort.holds_putRow (XdE (n:=m+1)) w g 0 _ (Sort.insertionSort (λa b:Fin (m+1)=>decide (dep l a.val<dep l b.val)) (Ze (m+1)).toArray 0 (m+1)) hH (by rw[hsz,hd]);refine⟨he,below_drewN (Lib.below_putRow (q:=0) (Below.refl g w) (Nat.le_refl g)) q,_,(0,0),XaE (XdE (n:=m+1)) _ hg,λj x hx=> ?_⟩;rw[hl,<-hs,List.getElem?_map] at hx;obtain⟨y,hy,rfl⟩:=Option.map_eq_some_iff.1 hx;have hj:j<m+1:=by have:=(lgS hy).1;rw[Array.length_toList,hsz] at this;exact this
 have h5:=(hp j (by rw[hsz];exact hj)).1;rw[Nat.zero_add,Lib.cell_of_heap (XaE (XdE (n:=m+1)) _ hg)] at h5;refine h5.trans ?_;have h6:(Sort.insertionSort (λa b:Fin (m+1)=>decide (dep l a.val<dep l b.val)) (Ze (m+1)).toArray 0 (m+1))[j]! =y:=by
  obtain⟨h7,h8⟩:=lgS hy;rw[getElem!_pos _ j (by rw[hsz];exact hj)];simpa using h8
 rw[h6];rfl
theorem Xny(p:Option Addr)(c:Nat)(w:World)(cf:Value):Calls Tryz.prog 151 #[.slice p 0 c,.int .i64 0,.int .i64 0,cf] w (Xc w (.tuple #[])):=by
 go_enter Tryz.func151,Tryz.ntmps151;go_wp2;go_loopw [8,9] (λi _ wr=>i=.int .i64 1/\wr=w) (λ_ _ _=>0)
 case atStart=>exact⟨rfl,rfl⟩
 case round=>
  obtain⟨rfl,rfl⟩:=hrel;go_wp2;go_end0;exact Xc.mk rfl brf
def Xbr(R:World->Prop)(e:Ending)(w':World):Prop:=e=.returned (.tuple #[])/\R w'
theorem Xcs(n:Nat)(hn:n<20)(A:Value)(cf:Value)(w:World)(R:World->Prop)(hA:∃p gcap,A=.slice p n gcap)
 (key:Calls Tryz.prog 151 #[A,.int .i64 0,.int .i64 (n:Int),cf] w (Xbr R)):
 Calls Tryz.prog 42 #[A,cf] w (Xbr R):=by
 have hC:=Xa key;have h1:¬20<=n:=by omega
 have h2:¬20<n:=by omega
 obtain⟨p,gcap,rfl⟩:=hA;clear key;have st:Calls Tryz.prog 94 #[.slice p n gcap,.int .i64 (n:Int),cf] w (Xbr R):=by
  go_enter Tryz.func94,Tryz.ntmps94;go_wp2;go_loopw [7,8] (λa b wr=>a=.int .i64 0/\b=.int .i64 20/\wr=w) (λ_ _ _=>0)
  case atStart=>exact⟨rfl,rfl,rfl⟩
  case round=>
   obtain⟨rfl,rfl,rfl⟩:=hrel;go_wp2_with fail;refine hC.out.mono ?_;rintro e w' ⟨rfl,hS⟩;have HS:=Xa hS;clear hS;go_wp2;go_loopw [6,7,8,9] (λs _ _ _ wr=>s=.int .i64 20/\wr=w') (λ_ _ _ _ _=>0)
   case atStart=>exact⟨rfl,rfl⟩
   case round=>
    obtain⟨rfl,rfl⟩:=hrel;go_wp2;go_end0;exact⟨rfl,HS.out⟩
 have ST:=Xa st;clear st h1 h2 hC;go_enter Tryz.func42,Tryz.ntmps42;go_wp2_with fail;refine ST.out.mono ?_;rintro e w' ⟨rfl,hS⟩;have HS:=Xa hS;clear hS;go_wp2;go_end0;exact⟨rfl,HS.out⟩
structure Xhw(W:World)(v:Value)(xs:List Nat)(x:World):Prop where
 own:x.ownsRow W.heap.size 3 1 v xs.length (xs.map λn:Nat=>Value.int .i64 (n:Int))
 bel:Below W.heap.size W x
theorem Xhw.start(W x:World)(h:Below W.heap.size W x):Xhw W (.slice none 0 0) [] x:=⟨XfH _ _ _ _,h⟩
theorem Xhw.append{W z u w':World}{v v':Value}{xs:List Nat}{n:Nat}(h:Xhw W v xs z)(hu:Below z.heap.size z u)(hC:w'.ownsRow W.heap.size 3 1 v' (xs.length+1) (xs.map (λn:Nat=>Value.int .i64 (n:Int))++[.int .i64 (n:Int)]))(hD:u.grownBy w' v.ownBlock):Xhw W v' (xs++[n]) w':=by
 have hb:Below W.heap.size z w':=Below.grown (hu.mono h.bel.size) hD (Nat.le_trans h.bel.size hu.size) (Xb2 h.own);refine⟨?_,h.bel.trans hb⟩;rw[List.length_append,List.map_append];exact hC
def Xvq(l:List Xd)(w:World)(e:Ending)(w':World):Prop:=∃A cap,e=.returned (.tuple #[.slice A l.length cap,.int .i64 0])/\l.length<=cap/\cap<=maxLen/\Below w.heap.size w w'/\(0<l.length->∃g,A=some ⟨g,0,none⟩/\XbS w' g (ZJ (dep l) l.length))
theorem XaD(n:Nat):(List.range n).length=n:=by simp
theorem XoO(h:Xf)(hR:h.ok)(hh:Xv h=true)(hT:h.aA.l.length<20)(w:World)(B:Nat)(hB:B<=w.heap.size)(hM:Xf.at_ w B h):
 Calls Tryz.prog 34 #[.agg #[.string h.name,.int .i64 h.aH,.slice h.aA.A h.aA.l.length h.aA.cap,.slice h.aB.A h.aB.l.length h.aB.cap]] w (Xvq h.aA.l w):=by
 obtain⟨W,hW,pA,hO,hU⟩:=bxhs w h;have hc:=λy:Xb W.heap.size W=>Xf.boxed hU (by omega) y;have hV:=Xa λy:Xb W.heap.size W=>hO.trans (y.below.mono (by omega));have hI:Xf.at_ W W.heap.size h:=hM.to (hO.mono hB) (by omega);have KV:=Xa (Xc.first (Yf h hR W W.heap.size nr hI));rw[hh] at KV;obtain⟨i0,hi,pB,pC,pD⟩:=info_parts XrK;have HZ:=Xa (Xaj hh);have pE:=Xa hI.aA;have hm:h.aA.cap<=9223372036854775807:=hM.aA.2.1
 have pJ:h.aA.l.length<=h.aA.cap:=hM.aA.1;have HW:=Xa hW;have pF:=Xa (show w.heap.size<W.heap.size by omega);have pG:=Xa (show ∀x:Xb W.heap.size W,x.val.cell? ⟨w.heap.size,2,none⟩=some (.slice h.aA.A h.aA.l.length h.aA.cap) from λx=>(hc x).2.2.1);clear hW pA hU hO hM hI hh hR;obtain⟨name,aH,⟨A,cap,l⟩,aB⟩:=h;simp only at*;go_enter Tryz.func34,Tryz.ntmps34;go_wp2_with (go_at_call 22;rw[<-HW.out];refine KV.out.mono ?_;rintro e w' ⟨rfl,y,rfl⟩)
 go_loopw [4,5,12] (λu _ v wr=>∃k:Nat,v=.int .i64 k/\k<=l.length/\Hid (Xhw W u (List.range k) wr)) (λ_ _ v _=>l.length-(intOf v).toNat)
 case atStart=>exact⟨0,rfl,Nat.zero_le _,Xa (Xhw.start W _ (y.below))⟩
 case round=>
  obtain⟨k,rfl,hk,st⟩:=hrel;have pH:=hc ⟨_,st.out.bel⟩;simp only at pH;by_cases pK:k<l.length
  ·have hJ:=Xa (XaD k);go_wp2_with (at_builtin;refine Hid.out ?_)
   refine Lib.hid ?_;refine wpList_append_own _ rfl _ _ 30 rfl W.heap.size 3 i0 (.int .i64 0) 1 8 Tryz.underlying30 hi pB pC pD rfl (by decide) _ _ _ rfl (st.out.own.alloc _) ⟨wr.heap.size,0,none⟩ 1 1 [.int .i64 (k:Int)] rfl rfl (by simpa using cell_one_new wr _ _) (λu hu=>by simp at hu;subst hu;rfl) (by rw[hJ.out];unfold maxLen;omega) (by rw[hJ.out];omega) (by have:=st.out.bel.size;simp;omega) ?_;intro v4 w4 hC hX _;have HN:=Xa (Xhw.append st.out (brf.alloc nr _) hC hX);rw[<-List.range_succ] at HN;clear hX hC;go_wp2;exact⟨⟨k+1,by go_num,by omega,HN⟩,by simp[intOf];omega⟩
  ·obtain rfl:k=l.length:=by omega
   have hcut:∃p c,u4=.slice p l.length c/\l.length<=c/\c<=maxLen:=by
    rcases st.out.own.2 with ⟨h1,h2⟩|⟨g,c,cur,h1,_,_,h2,h3,_⟩
    ·rw[XaD] at h2;exact⟨none,0,by rw[h1,h2],by omega,by decide⟩
    ·rw[XaD] at h1 h2;exact⟨_,c,h1,h2,h3⟩
   rcases Nat.eq_zero_or_pos l.length with h0|hp
   ·obtain⟨p,c,rfl,hN,hP⟩:=hcut;have KS:=Xa (Xcs l.length hT (.slice p l.length c) (.func (.func 88) #[] #[.pointer (some ⟨w.heap.size,0,none⟩)]) wr (λw'=>Below wr.heap.size wr w') ⟨_,_,rfl⟩ (by rw[h0];exact Xny p c wr _));have hK:=Xa st.out.bel;have H0:=Xa h0;clear st h0;go_wp2_with fail;refine KS.out.mono ?_;rintro e w' ⟨rfl,hS⟩;have HS:=Xa hS;clear hS;go_wp2;go_ret2;have hQ:Below W.heap.size W w':=hK.out.trans (HS.out.mono hK.out.size);exact⟨p,c,rfl,hN,hP,hV.out ⟨w',hQ⟩,λh=>absurd h (by have:=H0.out;omega)⟩
   ·obtain⟨m,hl⟩:∃m,l.length=m+1:=⟨l.length-1,by omega⟩
    have hY:u4≠ .slice none 0 0:=λe=>by
     obtain⟨p,c,h1,_⟩:=hcut;rw[h1] at e;injection e with _ e _;omega
    have hC:=st.out.own;rw[XaD,hl] at hC;have e1:(List.range (m+1)).map (λn:Nat=>Value.int .i64 (n:Int))=(Ze (m+1)).map XdE:=by
     rw[<-XeY,List.map_map];rfl
    rw[e1] at hC;have hL:=hC.2;obtain⟨g,gcap,rfl,hZ,pI,hN,hP,_,hH⟩:=Lib.holds_of_ownsRow hC hY;obtain⟨cur,hg⟩:∃cur,wr.heap[g]? =some (.cells cur 3 (0,0)):=by
     rcases hL with ⟨h1,_⟩|⟨g',c',cur,h1,_,h2,_⟩
     ·cases h1
     ·injection h1 with h1;injection h1 with h1;injection h1 with h1;subst h1;exact⟨cur,h2⟩
    obtain⟨b,off,hA,hb,hG⟩:=pE.out.2.2 hp;simp only at hA;subst hA;have hE:=st.out.bel
    have hD:XdY wr w.heap.size b off cap l:=⟨pG.out ⟨wr,hE⟩,λk hk=>by
     have hx:l[k]? =some l[k]:=lgE hk;rw[XtW hx]
     exact(Xd.elem hx hb hG ⟨wr,hE⟩).2.1⟩
    have pL:=pF.out;have KI:=Xtm (gcap:=gcap) hl (by omega) HZ.out wr hD (by have:=hE.size;omega) (by have:=hE.size;omega) (by omega) (by omega) hg hH;rw[<-hl] at hN ⊢;have KS:=Xa (Xcs l.length hT (.slice (some ⟨g,0,none⟩) l.length gcap) (.func (.func 88) #[] #[.pointer (some ⟨w.heap.size,0,none⟩)]) wr (λw'=>Below g wr w'/\XbS w' g (ZJ (dep l) l.length)) ⟨_,_,rfl⟩ KI);have hK:=Xa (And.intro hE hZ);clear st hcut hY hC e1 hH hG hD KI hE hZ hg hl hL pI cur;go_wp2_with fail;refine KS.out.mono ?_;rintro e w' ⟨rfl,hS⟩;have HS:=Xa hS;clear hS;go_wp2
    go_ret2;have hQ:Below W.heap.size W w':=hK.out.1.trans (HS.out.1.mono hK.out.2);exact⟨_,gcap,rfl,hN,hP,hV.out ⟨w',hQ⟩,λ_=>⟨g,rfl,HS.out.2⟩⟩
end Go.Proofs.YtdcahhbipeaggaaGreatDoor
namespace Go.Proofs.YtdcahhbipeaggaaGreatDoor
open Go.RowKit
theorem Xig{n b:Int}(hn:n<0)(hb:1<=b):n<=n.tdiv b*b/\n.tdiv b*b<=0/\(n.tdiv b-1)*b<n/\n<=n.tdiv b/\n.tdiv b<=0:=by
 obtain⟨m,rfl⟩:∃m:Int,n= -m:=⟨-n,by omega⟩
 rw[Int.neg_tdiv,Int.tdiv_eq_ediv_of_nonneg (by omega)];have h1:=Int.ediv_mul_le m (show b≠0 by omega);have h2:=Int.lt_ediv_add_one_mul_self m (show 0<b by omega);have h3:0<=m/b:=Int.ediv_nonneg (by omega) (by omega);have h4:m/b<=m:=Int.ediv_le_self _ (by omega);have h5:0<=m/b*b:=Int.mul_nonneg h3 (by omega);have e1: -(m/b)*b= -(m/b*b):=by rw[Int.neg_mul]
 have e2:(-(m/b)-1)*b= -((m/b+1)*b):=by rw[<-Int.neg_mul];congr 1;omega
 omega
theorem Xmk{n b:Int}(hn:n<0)(hb:1<=b):n/b=if n<n.tdiv b*b then n.tdiv b-1 else n.tdiv b:=by
 obtain⟨f1,f2,f3,f4,f5⟩:=Xig hn hb;have e:(n.tdiv b-1)*b=n.tdiv b*b-b:=by rw[Int.sub_mul,Int.one_mul]
 have e':(n.tdiv b+1)*b=n.tdiv b*b+b:=by rw[Int.add_mul,Int.one_mul]
 split
 ·exact Int.ediv_eq_iff_of_pos (by omega)|>.2 ⟨by omega,by omega⟩
 ·exact Int.ediv_eq_iff_of_pos (by omega)|>.2 ⟨by omega,by omega⟩
theorem XnR(n b:Int)(h1: -2097152<=n)(h2:n<=2097152)(h3:1<=b)(h4:b<=1048576)(w:World):Calls Tryz.prog 53 #[.int .i64 n,.int .i64 b] w (Xc w (.int .i64 (n/b))):=by
 by_cases hn:0<=n
 ·obtain⟨q0,q1⟩:0<=n/b/\n/b<=2097152:=⟨Int.ediv_nonneg hn (by omega),Int.le_trans (Int.ediv_le_self _ hn) h2⟩
  have m1:=Int.ediv_mul_le n (show b≠0 by omega);have m2:0<=n/b*b:=Int.mul_nonneg q0 (by omega);go_enter Tryz.func53,Tryz.ntmps53;go_wp2;go_ret;exact Xc.mk rfl brf
 ·obtain⟨f1,f2,f3,f4,f5⟩:=Xig (show n<0 by omega) h3;have HE:=Xa (Xmk (show n<0 by omega) h3);clear f3;by_cases ht:n<n.tdiv b*b
  all_goals
   go_enter Tryz.func53,Tryz.ntmps53;go_wp2;go_ret;exact Xc.mk (congrArg (Value.int IntKind.i64) (show _=n/b by rw[HE.out];first|rw[if_pos ht]|rw[if_neg (by omega)])) brf
end Go.Proofs.YtdcahhbipeaggaaGreatDoor
