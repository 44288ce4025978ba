/- Lemmas for TopPrinted: Base, Data. -/
import Derived.Handy
import Derived.WalkSpells
import Derived.WalkLawsBesides
import Derived.Deep.QuietTactic
import Derived.BigQuiet
namespace Go.Proofs.YtdcahhbipeaggaaGreatDoor
open Go.RowKit
theorem Xa{p:Prop}(h:p):Hid p:=h
structure Xb(B:Nat)(w:World) where
 val:World
 below:Below B w val
def Xb.refl(B:Nat)(w:World):Xb B w:=⟨w,Below.refl B w⟩
instance {B:Nat}{w:World}:Nonempty (Xb B w):=⟨Xb.refl B w⟩
theorem Xb.exists_iff{B:Nat}{w w':World}(h:Below B w w'):∃x:Xb B w,w'=x.val:=⟨⟨w',h⟩,rfl⟩
theorem Xb.cell{B:Nat}{w:World}{p:Addr}{v:Value}(h:w.cell? p=some v)(hp:p.block<B)(x:Xb B w):x.val.cell? p=some v:=(x.below.cell hp).trans h
theorem Xb.size{B:Nat}{w:World}(x:Xb B w):w.heap.size<=x.val.heap.size:=x.below.size
theorem XcY{P:Program}{id:Nat}{Q:Exit->Act->World->Prop}{a:Act}{B:Nat}{w W:World}{l:List Oper}(hW:Below B w W)(hm:P.follows .mixedOrders=true)(hB:Region.lexB .any l.toArray=true)
 (h:wpQuiet P l.toArray (λw'=>∃x:Xb B w,w'=x.val) (λa'=>∀x:Xb B w,Q .normal a' x.val) l a):(Code.region id l.toArray true).wp P Q a W:=
 wp_region_quiet (C:=λw'=>∃x:Xb B w,w'=x.val) hm hB (Xb.exists_iff (hW.trans ⟨rfl,rfl,rfl,Nat.le_refl _,λ_ _=>rfl⟩))
  (by
    have e:(λa'=>∀w',(∃x:Xb B w,w'=x.val)->Q .normal a' w')=(λa'=>∀x:Xb B w,Q .normal a' x.val):=by
     funext a'
     exact propext ⟨λh x=>h _ ⟨x,rfl⟩,λh w' ⟨x,hx⟩=>hx▸h x⟩
    rw[e]
    simpa using h)
theorem Yq{P:Program}{id:Nat}{Q:Exit->Act->World->Prop}{a:Act}(B:Nat){w:World}{l:List Oper}(hm:P.follows .mixedOrders=true)(hB:Region.lexB .any l.toArray=true)
 (h:wpQuiet P l.toArray (λw'=>∃x:Xb B w,w'=x.val) (λa'=>∀x:Xb B w,Q .normal a' x.val) l a):(Code.region id l.toArray true).wp P Q a w:=
 XcY (Below.refl _ _) hm hB h
theorem Xk{P:Program}{id:Nat}{Q:Exit->Act->World->Prop}{a:Act}{B:Nat}{w:World}(x:Xb B w){l:List Oper}(hm:P.follows .mixedOrders=true)(hB:Region.lexB .any l.toArray=true)
 (h:wpQuiet P l.toArray (λw'=>∃x:Xb B w,w'=x.val) (λa'=>∀x:Xb B w,Q .normal a' x.val) l a):(Code.region id l.toArray true).wp P Q a x.val:=
 XcY x.below hm hB h
def Xc(w:World)(v:Value)(e:Ending)(w':World):Prop:=e=.returned v/\Below w.heap.size w w'
theorem Xc.mk{w w':World}{v v':Value}(hv:v'=v)(h:Below w.heap.size w w'):Xc w v (.returned v') w':=⟨by rw[hv],h⟩
theorem Xc.after{P:Program}{f:FuncId}{args:Array Value}{B:Nat}{w:World}{v:Value}(hB:B<=w.heap.size){x:Xb B w}(h:Calls P f args x.val (Xc x.val v)):
 Calls P f args x.val λe w''=>e=.returned v/\∃y:Xb B w,w''=y.val:=
 h.mono λ_ _ ⟨he,hb⟩=>⟨he,Xb.exists_iff (x.below.trans (hb.mono (Nat.le_trans hB x.below.size)))⟩
theorem Xc.first{P:Program}{f:FuncId}{args:Array Value}{w:World}{v:Value}(h:Calls P f args w (Xc w v)):
 Calls P f args w λe w''=>e=.returned v/\∃y:Xb w.heap.size w,w''=y.val:=
 h.mono λ_ _ ⟨he,hb⟩=>⟨he,Xb.exists_iff hb⟩
theorem nr{n:Nat}:n<=n:=Nat.le_refl n
theorem bdo{w W:World}(h:Below w.heap.size w W):∀y:Xb W.heap.size W,Below w.heap.size w y.val:=λy=>h.trans (y.below.mono h.size)
theorem Xb.cells{W:World}{B b:Nat}{cs:Array Value}{t:TypeId}(h:W.heap[b]? =some (.cells cs t (0,0)))(hb:b<B)(x:Xb B W)(j:Nat)(v:Value)(hj:cs[j]? =some v):x.val.cell? ⟨b,j,none⟩=some v:=by
 refine(x.below.cell hb).trans ?_;simp[World.cell?,h,hj]
theorem boxed(w:World)(o:Obj):∃W:World,W=w.alloc o/\W.heap.size=w.heap.size+1/\Below w.heap.size w W/\W.heap[w.heap.size]? =some o:=
 ⟨_,rfl,by simp,(Below.refl _ _).alloc nr _,heap_alloc_new w _⟩
theorem XZ{P:Program}{f:FuncId}{fn:Func}{c:Code}(hf:P.funcs[f]? =some fn)(hname:(fn.name== "runtime.NumGoroutine")=false)(hb:fn.body=some c):∀args w,(callFunc f args).run P w=.ok (.enter f args) w:=by
 intro args w;have h1:fn.name≠ "runtime.NumGoroutine" :=by simpa using hname
 simp[callFunc,hf,h1,hb,mark]
structure Sl(α:Type) where
 A:Option Addr
 cap:Nat
 l:List α
def Sl.val{α:Type}(s:Sl α):Value:=.slice s.A s.l.length s.cap
def XA{α:Type}(w:World)(B size:Nat)(cells:α->List Value)(s:Sl α):Prop:=
 s.l.length<=s.cap/\s.cap<=maxLen/\(0<s.l.length->∃b off,s.A=some ⟨b,off,none⟩/\b<B/\∀i x,s.l[i]? =some x->∀j u,(cells x)[j]? =some u->w.cell? ⟨b,off+(i*size+j),none⟩=some u)
section
variable {α:Type} {w w':World} {B B' size:Nat} {cells:α->List Value} {s:Sl α}
theorem XA.keep(h:XA w B size cells s)(hk:∀p:Addr,p.block<B->w'.cell? p=w.cell? p):XA w' B size cells s:=
 ⟨h.1,h.2.1,λhn=>by
  obtain⟨b,off,hA,hb,hc⟩:=h.2.2 hn
  exact⟨b,off,hA,hb,λi x hx j u hu=>(hk ⟨b,off+(i*size+j),none⟩ hb).trans (hc i x hx j u hu)⟩⟩
theorem XA.below(h:XA w B size cells s)(hb:Below B w w'):XA w' B size cells s:=h.keep λ_ hp=>hb.cell hp
theorem XA.more(h:XA w B size cells s)(hB:B<=B'):XA w B' size cells s:=
 ⟨h.1,h.2.1,λhn=>by
  obtain⟨b,off,hA,hb,hc⟩:=h.2.2 hn
  exact⟨b,off,hA,by omega,hc⟩⟩
theorem XA.to(h:XA w B size cells s)(hb:Below B w w')(hB:B<=B'):XA w' B' size cells s:=(h.below hb).more hB
end
def YV{α:Type}(p:Nat->α->Bool):Nat->List α->Bool
 |_,[]=>true
 |i,x::l=>p i x&&YV p (i+1) l
def X8{α:Type}(p:Nat->α->Bool)(l:List α):Bool:=YV p 0 l
theorem XdP{α:Type}{p:Nat->α->Bool}:∀(l:List α) (i:Nat),YV p i l=true↔∀j y,l[j]? =some y->p (i+j) y=true
 |[],_=>by simp[YV]
 |x::l,i=>by
  rw[YV,Bool.and_eq_true,XdP l (i+1)];constructor
  ·rintro⟨h1,h2⟩ j y hy;cases j with
   |zero=>simp at hy;subst hy;exact h1
   |succ j=>rw[<-Nat.add_assoc,Nat.add_right_comm];exact h2 j y (by simpa using hy)
  ·intro h;refine⟨by simpa using h 0 x rfl,λj y hy=> ?_⟩;have:=h (j+1) y (by simpa using hy)
   rwa [<-Nat.add_assoc,Nat.add_right_comm] at this
theorem XJ{α:Type}{p:Nat->α->Bool}{l:List α}:X8 p l=true↔∀j y,l[j]? =some y->p j y=true:=by
 have:=XdP (p:=p) l 0;simpa[X8] using this
theorem XpP{α:Type}{p:Nat->α->Bool}{l:List α}(h:∀j y,j<l.length->l[j]? =some y->p j y=true):X8 p l=true:=
 XJ.2 λj y hy=>h j y (List.getElem?_eq_some_iff.1 hy).1 hy
theorem YP{α:Type}{p:Nat->α->Bool}{l:List α}{k:Nat}{y:α}(hy:l[k]? =some y)(h:p k y=false):X8 p l=false:=by
 cases ha:X8 p l with
 |false=>rfl
 |true=>rw[XJ.1 ha k y hy] at h;cases h
def YA{α:Type}(p:Nat->α->Bool)(l:List α)(k:Nat):Prop:=∀j y,j<k->l[j]? =some y->p j y=true
theorem YA.zero{α:Type}(p:Nat->α->Bool)(l:List α):YA p l 0:=λj y hj=>absurd hj (by omega)
theorem YA.next{α:Type}{p:Nat->α->Bool}{l:List α}{k:Nat}{z:α}(h:YA p l k)(hz:l[k]? =some z)(hp:p k z=true):YA p l (k+1):=λj y hj hy=>by
 by_cases e:j=k
 ·subst e;rw[hz] at hy;injection hy with hy;rw[<-hy];exact hp
 ·exact h j y (by omega) hy
theorem YA.all{α:Type}{p:Nat->α->Bool}{l:List α}{k:Nat}(h:YA p l k)(hk:l.length<=k):X8 p l=true:=XpP λj y hj hy=>h j y (by omega) hy
def bs(s:ByteArray):List UInt8:=s.toList
theorem Yk(s:ByteArray):bs s=s.data.toList:=ByteArray.toList_eq s
theorem XO(s:ByteArray):(bs s).length=s.size:=by rw[Yk,Array.length_toList];rfl
theorem XcQ(s:ByteArray)(k:Nat)(h:k<s.size):(bs s)[k]? =some s[k]:=by
 rw[Yk,Array.getElem?_toList,Array.getElem?_eq_getElem h];rfl
theorem Xie{s:ByteArray}(h:s.size=0):s.toList=[]:=List.eq_nil_of_length_eq_zero (by rw[show s.toList=bs s from rfl,XO];exact h)
theorem Xgt{s:ByteArray}(h:0<s.size):¬s.toList=[]:=λe=>by
 have:=XO s;unfold bs at this;rw[e] at this;simp at this;omega
theorem Xde{s:ByteArray}(h:0<s.size):s.toList.isEmpty=false:=by
 have:=Xgt h;cases hs:s.toList with
 |nil=>exact absurd hs this
 |cons=>rfl
theorem XgQ{s t:ByteArray}(h:bs s=bs t):s=t:=by
 rw[Yk,Yk] at h;cases s;cases t
 simp only at h;rw[Array.toList_inj.1 h]
def I64(n:Int):Prop:= -9223372036854775808<=n/\n<=9223372036854775807
theorem lgE.{u}{α:Type u}{l:List α}{i:Nat}(h:i<l.length):l[i]? =some l[i]:=List.getElem?_eq_getElem h
theorem agS.{u}{α:Type u}{i:Nat}{b:α}{xs:Array α}(h:xs[i]? =some b):∃h:i<xs.size,xs[i]=b:=Array.getElem?_eq_some_iff.1 h
theorem lgS.{u}{α:Type u}{i:Nat}{a:α}{l:List α}(h:l[i]? =some a):∃h:i<l.length,l[i]=a:=List.getElem?_eq_some_iff.1 h
theorem brf{B:Nat}{w:World}:Below B w w:=Below.refl B w
theorem bae(a b:Bool):((a&&b)=true)=(a=true/\b=true):=Bool.and_eq_true a b
theorem lmg.{u}{α:Type u}{l:List α}{i:Nat}{a:α}(h:l[i]? =some a):a∈l:=List.mem_of_getElem? h
theorem nzl{n:Nat}:0<=n:=Nat.zero_le n
end Go.Proofs.YtdcahhbipeaggaaGreatDoor
namespace Go.Proofs.YtdcahhbipeaggaaGreatDoor
open Go.RowKit
structure Xw where
 set:ByteArray
 to:Int
 aK:Int
 rise:Int
 fall:Int
structure Xu where
 name:ByteArray
 place:Int
 width:Int
 weight:Int
 hang:Int
 front:Int
 back:Int
structure Xo where
 name:ByteArray
 weight:Int
 count:Int
structure Xt where
 name:ByteArray
 fro:Int
 til:Int
 most:Int
structure Xd where
 name:ByteArray
 depth:Int
 low:Int
 high:Int
 length:Int
 aG:Sl Int
 aM:Int
 aN:Int
 aI:Int
 most:Int
 aJ:Int
 aF:Sl Xu
 aE:Sl Xo
structure Xf where
 name:ByteArray
 aH:Int
 aA:Sl Xd
 aB:Sl Xt
def Xj(n:Int):List Value:=[.int .i64 n]
def Xu.cells(x:Xu):List Value:=[.string x.name,.int .i64 x.place,.int .i64 x.width,.int .i64 x.weight,.int .i64 x.hang,.int .i64 x.front,.int .i64 x.back]
def Xo.cells(x:Xo):List Value:=[.string x.name,.int .i64 x.weight,.int .i64 x.count]
def Xt.cells(x:Xt):List Value:=[.string x.name,.int .i64 x.fro,.int .i64 x.til,.int .i64 x.most]
def Xd.cells(s:Xd):List Value:=[.string s.name,.int .i64 s.depth,.int .i64 s.low,.int .i64 s.high,.int .i64 s.length,.slice s.aG.A s.aG.l.length s.aG.cap,.int .i64 s.aM,.int .i64 s.aN,.int .i64 s.aI,.int .i64 s.most,.int .i64 s.aJ,.slice s.aF.A s.aF.l.length s.aF.cap,.slice s.aE.A s.aE.l.length s.aE.cap]
structure Xu.ok(x:Xu):Prop where
 name:x.name.size<=maxLen
 place:I64 x.place
 width:I64 x.width
 weight:I64 x.weight
 hang:I64 x.hang
 front:I64 x.front
 back:I64 x.back
structure Xo.ok(x:Xo):Prop where
 name:x.name.size<=maxLen
 weight:I64 x.weight
 count:I64 x.count
structure Xt.ok(x:Xt):Prop where
 name:x.name.size<=maxLen
 fro:I64 x.fro
 til:I64 x.til
 most:I64 x.most
structure Xd.ok(s:Xd):Prop where
 name:s.name.size<=maxLen
 depth:I64 s.depth
 low:I64 s.low
 high:I64 s.high
 length:I64 s.length
 aG:∀n∈s.aG.l,I64 n
 aM:I64 s.aM
 aN:I64 s.aN
 aI:I64 s.aI
 most:I64 s.most
 aJ:I64 s.aJ
 aF:∀x∈s.aF.l,x.ok
 aE:∀x∈s.aE.l,x.ok
structure Xf.ok(h:Xf):Prop where
 name:h.name.size<=maxLen
 aH:I64 h.aH
 aA:∀s∈h.aA.l,s.ok
 aB:∀r∈h.aB.l,r.ok
structure Xd.at_(w:World)(B:Nat)(s:Xd):Prop where
 aG:XA w B 1 Xj s.aG
 aF:XA w B 7 Xu.cells s.aF
 aE:XA w B 3 Xo.cells s.aE
structure Xf.at_(w:World)(B:Nat)(h:Xf):Prop where
 aA:XA w B 13 Xd.cells h.aA
 each:∀s∈h.aA.l,Xd.at_ w B s
 aB:XA w B 4 Xt.cells h.aB
section
variable {W:World} {B b:Nat} {t:TypeId}
theorem Xf.boxed{h:Xf}(hW:W.heap[b]? =some (.cells #[.string h.name,.int .i64 h.aH,.slice h.aA.A h.aA.l.length h.aA.cap,.slice h.aB.A h.aB.l.length h.aB.cap] t (0,0)))(hb:b<B)(x:Xb B W):
 x.val.cell? ⟨b,0,none⟩=some (.string h.name)/\x.val.cell? ⟨b,1,none⟩=some (.int .i64 h.aH)/\x.val.cell? ⟨b,2,none⟩=some (.slice h.aA.A h.aA.l.length h.aA.cap)/\x.val.cell? ⟨b,3,none⟩=some (.slice h.aB.A h.aB.l.length h.aB.cap):=
 ⟨x.cells hW hb 0 _ rfl,x.cells hW hb 1 _ rfl,x.cells hW hb 2 _ rfl,x.cells hW hb 3 _ rfl⟩
theorem Xd.boxed{s:Xd}(hW:W.heap[b]? =some (.cells #[.string s.name,.int .i64 s.depth,.int .i64 s.low,.int .i64 s.high,.int .i64 s.length,.slice s.aG.A s.aG.l.length s.aG.cap,.int .i64 s.aM,.int .i64 s.aN,.int .i64 s.aI,.int .i64 s.most,.int .i64 s.aJ,.slice s.aF.A s.aF.l.length s.aF.cap,.slice s.aE.A s.aE.l.length s.aE.cap] t (0,0)))(hb:b<B)(x:Xb B W):
 x.val.cell? ⟨b,0,none⟩=some (.string s.name)/\x.val.cell? ⟨b,1,none⟩=some (.int .i64 s.depth)/\x.val.cell? ⟨b,2,none⟩=some (.int .i64 s.low)/\x.val.cell? ⟨b,3,none⟩=some (.int .i64 s.high)/\x.val.cell? ⟨b,4,none⟩=some (.int .i64 s.length)/\x.val.cell? ⟨b,5,none⟩=some (.slice s.aG.A s.aG.l.length s.aG.cap)/\x.val.cell? ⟨b,6,none⟩=some (.int .i64 s.aM)/\x.val.cell? ⟨b,7,none⟩=some (.int .i64 s.aN)/\x.val.cell? ⟨b,8,none⟩=some (.int .i64 s.aI)/\x.val.cell? ⟨b,9,none⟩=some (.int .i64 s.most)/\x.val.cell? ⟨b,10,none⟩=some (.int .i64 s.aJ)/\x.val.cell? ⟨b,11,none⟩=some (.slice s.aF.A s.aF.l.length s.aF.cap)/\x.val.cell? ⟨b,12,none⟩=some (.slice s.aE.A s.aE.l.length s.aE.cap):=
 ⟨x.cells hW hb 0 _ rfl,x.cells hW hb 1 _ rfl,x.cells hW hb 2 _ rfl,x.cells hW hb 3 _ rfl,x.cells hW hb 4 _ rfl,x.cells hW hb 5 _ rfl,x.cells hW hb 6 _ rfl,x.cells hW hb 7 _ rfl,x.cells hW hb 8 _ rfl,x.cells hW hb 9 _ rfl,x.cells hW hb 10 _ rfl,x.cells hW hb 11 _ rfl,x.cells hW hb 12 _ rfl⟩
theorem Xu.boxed{i:Xu}(hW:W.heap[b]? =some (.cells #[.string i.name,.int .i64 i.place,.int .i64 i.width,.int .i64 i.weight,.int .i64 i.hang,.int .i64 i.front,.int .i64 i.back] t (0,0)))(hb:b<B)(x:Xb B W):
 x.val.cell? ⟨b,0,none⟩=some (.string i.name)/\x.val.cell? ⟨b,1,none⟩=some (.int .i64 i.place)/\x.val.cell? ⟨b,2,none⟩=some (.int .i64 i.width)/\x.val.cell? ⟨b,3,none⟩=some (.int .i64 i.weight)/\x.val.cell? ⟨b,4,none⟩=some (.int .i64 i.hang)/\x.val.cell? ⟨b,5,none⟩=some (.int .i64 i.front)/\x.val.cell? ⟨b,6,none⟩=some (.int .i64 i.back):=
 ⟨x.cells hW hb 0 _ rfl,x.cells hW hb 1 _ rfl,x.cells hW hb 2 _ rfl,x.cells hW hb 3 _ rfl,x.cells hW hb 4 _ rfl,x.cells hW hb 5 _ rfl,x.cells hW hb 6 _ rfl⟩
theorem Xo.boxed{i:Xo}(hW:W.heap[b]? =some (.cells #[.string i.name,.int .i64 i.weight,.int .i64 i.count] t (0,0)))(hb:b<B)(x:Xb B W):
 x.val.cell? ⟨b,0,none⟩=some (.string i.name)/\x.val.cell? ⟨b,1,none⟩=some (.int .i64 i.weight)/\x.val.cell? ⟨b,2,none⟩=some (.int .i64 i.count):=
 ⟨x.cells hW hb 0 _ rfl,x.cells hW hb 1 _ rfl,x.cells hW hb 2 _ rfl⟩
theorem Xt.boxed{i:Xt}(hW:W.heap[b]? =some (.cells #[.string i.name,.int .i64 i.fro,.int .i64 i.til,.int .i64 i.most] t (0,0)))(hb:b<B)(x:Xb B W):
 x.val.cell? ⟨b,0,none⟩=some (.string i.name)/\x.val.cell? ⟨b,1,none⟩=some (.int .i64 i.fro)/\x.val.cell? ⟨b,2,none⟩=some (.int .i64 i.til)/\x.val.cell? ⟨b,3,none⟩=some (.int .i64 i.most):=
 ⟨x.cells hW hb 0 _ rfl,x.cells hW hb 1 _ rfl,x.cells hW hb 2 _ rfl,x.cells hW hb 3 _ rfl⟩
end
section
variable {W:World} {B b off size:Nat}
theorem Xd.elem{l:List Xd}{k:Nat}{s:Xd}(hs:l[k]? =some s)(hb:b<B)(hc:∀i x,l[i]? =some x->∀j u,(x.cells)[j]? =some u->W.cell? ⟨b,off+(i*13+j),none⟩=some u)(x:Xb B W):
 x.val.cell? ⟨b,off+k*13,none⟩=some (.string s.name)/\x.val.cell? ⟨b,off+k*13+1,none⟩=some (.int .i64 s.depth)/\x.val.cell? ⟨b,off+k*13+2,none⟩=some (.int .i64 s.low)/\x.val.cell? ⟨b,off+k*13+3,none⟩=some (.int .i64 s.high)/\x.val.cell? ⟨b,off+k*13+4,none⟩=some (.int .i64 s.length)/\x.val.cell? ⟨b,off+k*13+5,none⟩=some (.slice s.aG.A s.aG.l.length s.aG.cap)/\x.val.cell? ⟨b,off+k*13+6,none⟩=some (.int .i64 s.aM)/\x.val.cell? ⟨b,off+k*13+7,none⟩=some (.int .i64 s.aN)/\x.val.cell? ⟨b,off+k*13+8,none⟩=some (.int .i64 s.aI)/\x.val.cell? ⟨b,off+k*13+9,none⟩=some (.int .i64 s.most)/\x.val.cell? ⟨b,off+k*13+10,none⟩=some (.int .i64 s.aJ)/\x.val.cell? ⟨b,off+k*13+11,none⟩=some (.slice s.aF.A s.aF.l.length s.aF.cap)/\x.val.cell? ⟨b,off+k*13+12,none⟩=some (.slice s.aE.A s.aE.l.length s.aE.cap):=by
 have h:∀j u,s.cells[j]? =some u->x.val.cell? ⟨b,off+k*13+j,none⟩=some u:=λj u hu=>by rw[Nat.add_assoc];exact x.cell (hc k s hs j u hu) hb
 exact⟨h 0 _ rfl,h 1 _ rfl,h 2 _ rfl,h 3 _ rfl,h 4 _ rfl,h 5 _ rfl,h 6 _ rfl,h 7 _ rfl,h 8 _ rfl,h 9 _ rfl,h 10 _ rfl,h 11 _ rfl,h 12 _ rfl⟩
theorem Xu.elem{l:List Xu}{k:Nat}{s:Xu}(hs:l[k]? =some s)(hb:b<B)(hc:∀i x,l[i]? =some x->∀j u,(x.cells)[j]? =some u->W.cell? ⟨b,off+(i*7+j),none⟩=some u)(x:Xb B W):
 x.val.cell? ⟨b,off+k*7,none⟩=some (.string s.name)/\x.val.cell? ⟨b,off+k*7+1,none⟩=some (.int .i64 s.place)/\x.val.cell? ⟨b,off+k*7+2,none⟩=some (.int .i64 s.width)/\x.val.cell? ⟨b,off+k*7+3,none⟩=some (.int .i64 s.weight)/\x.val.cell? ⟨b,off+k*7+4,none⟩=some (.int .i64 s.hang)/\x.val.cell? ⟨b,off+k*7+5,none⟩=some (.int .i64 s.front)/\x.val.cell? ⟨b,off+k*7+6,none⟩=some (.int .i64 s.back):=by
 have h:∀j u,s.cells[j]? =some u->x.val.cell? ⟨b,off+k*7+j,none⟩=some u:=λj u hu=>by rw[Nat.add_assoc];exact x.cell (hc k s hs j u hu) hb
 exact⟨h 0 _ rfl,h 1 _ rfl,h 2 _ rfl,h 3 _ rfl,h 4 _ rfl,h 5 _ rfl,h 6 _ rfl⟩
theorem Xo.elem{l:List Xo}{k:Nat}{s:Xo}(hs:l[k]? =some s)(hb:b<B)(hc:∀i x,l[i]? =some x->∀j u,(x.cells)[j]? =some u->W.cell? ⟨b,off+(i*3+j),none⟩=some u)(x:Xb B W):
 x.val.cell? ⟨b,off+k*3,none⟩=some (.string s.name)/\x.val.cell? ⟨b,off+k*3+1,none⟩=some (.int .i64 s.weight)/\x.val.cell? ⟨b,off+k*3+2,none⟩=some (.int .i64 s.count):=by
 have h:∀j u,s.cells[j]? =some u->x.val.cell? ⟨b,off+k*3+j,none⟩=some u:=λj u hu=>by rw[Nat.add_assoc];exact x.cell (hc k s hs j u hu) hb
 exact⟨h 0 _ rfl,h 1 _ rfl,h 2 _ rfl⟩
theorem Xt.elem{l:List Xt}{k:Nat}{s:Xt}(hs:l[k]? =some s)(hb:b<B)(hc:∀i x,l[i]? =some x->∀j u,(x.cells)[j]? =some u->W.cell? ⟨b,off+(i*4+j),none⟩=some u)(x:Xb B W):
 x.val.cell? ⟨b,off+k*4,none⟩=some (.string s.name)/\x.val.cell? ⟨b,off+k*4+1,none⟩=some (.int .i64 s.fro)/\x.val.cell? ⟨b,off+k*4+2,none⟩=some (.int .i64 s.til)/\x.val.cell? ⟨b,off+k*4+3,none⟩=some (.int .i64 s.most):=by
 have h:∀j u,s.cells[j]? =some u->x.val.cell? ⟨b,off+k*4+j,none⟩=some u:=λj u hu=>by rw[Nat.add_assoc];exact x.cell (hc k s hs j u hu) hb
 exact⟨h 0 _ rfl,h 1 _ rfl,h 2 _ rfl,h 3 _ rfl⟩
theorem XaL{l:List Int}{k:Nat}{s:Int}(hs:l[k]? =some s)(hb:b<B)(hc:∀i x,l[i]? =some x->∀j u,(Xj x)[j]? =some u->W.cell? ⟨b,off+(i*1+j),none⟩=some u)(x:Xb B W):
 x.val.cell? ⟨b,off+k,none⟩=some (.int .i64 s):=by
 have h:=hc k s hs 0 _ rfl;exact x.cell (by simpa using h) hb
end
section
variable {w w':World} {B B':Nat}
theorem Xd.at_.to{s:Xd}(h:Xd.at_ w B s)(hb:Below B w w')(hB:B<=B'):Xd.at_ w' B' s:=⟨h.aG.to hb hB,h.aF.to hb hB,h.aE.to hb hB⟩
theorem Xf.at_.to{h:Xf}(hh:Xf.at_ w B h)(hb:Below B w w')(hB:B<=B'):Xf.at_ w' B' h:=⟨hh.aA.to hb hB,λs hs=>(hh.each s hs).to hb hB,hh.aB.to hb hB⟩
end
open Go Go.RowKit in
theorem bxst(w:World)(x:Xd):∃W:World,W=w.alloc (.cells #[.string x.name,.int .i64 x.depth,.int .i64 x.low,.int .i64 x.high,.int .i64 x.length,.slice x.aG.A x.aG.l.length x.aG.cap,.int .i64 x.aM,.int .i64 x.aN,.int .i64 x.aI,.int .i64 x.most,.int .i64 x.aJ,.slice x.aF.A x.aF.l.length x.aF.cap,.slice x.aE.A x.aE.l.length x.aE.cap] 57)/\W.heap.size=w.heap.size+1/\Below w.heap.size w W/\W.heap[w.heap.size]? =some (.cells #[.string x.name,.int .i64 x.depth,.int .i64 x.low,.int .i64 x.high,.int .i64 x.length,.slice x.aG.A x.aG.l.length x.aG.cap,.int .i64 x.aM,.int .i64 x.aN,.int .i64 x.aI,.int .i64 x.most,.int .i64 x.aJ,.slice x.aF.A x.aF.l.length x.aF.cap,.slice x.aE.A x.aE.l.length x.aE.cap] 57):=boxed w _
open Go Go.RowKit in
theorem bxhs(w:World)(x:Xf):∃W:World,W=w.alloc (.cells #[.string x.name,.int .i64 x.aH,.slice x.aA.A x.aA.l.length x.aA.cap,.slice x.aB.A x.aB.l.length x.aB.cap] 25)/\W.heap.size=w.heap.size+1/\Below w.heap.size w W/\W.heap[w.heap.size]? =some (.cells #[.string x.name,.int .i64 x.aH,.slice x.aA.A x.aA.l.length x.aA.cap,.slice x.aB.A x.aB.l.length x.aB.cap] 25):=boxed w _
open Go Go.RowKit in
theorem bxit(w:World)(x:Xu):∃W:World,W=w.alloc (.cells #[.string x.name,.int .i64 x.place,.int .i64 x.width,.int .i64 x.weight,.int .i64 x.hang,.int .i64 x.front,.int .i64 x.back] 86)/\W.heap.size=w.heap.size+1/\Below w.heap.size w W/\W.heap[w.heap.size]? =some (.cells #[.string x.name,.int .i64 x.place,.int .i64 x.width,.int .i64 x.weight,.int .i64 x.hang,.int .i64 x.front,.int .i64 x.back] 86):=boxed w _
open Go Go.RowKit in
theorem bxbk(w:World)(x:Xo):∃W:World,W=w.alloc (.cells #[.string x.name,.int .i64 x.weight,.int .i64 x.count] 88)/\W.heap.size=w.heap.size+1/\Below w.heap.size w W/\W.heap[w.heap.size]? =some (.cells #[.string x.name,.int .i64 x.weight,.int .i64 x.count] 88):=boxed w _
open Go Go.RowKit in
theorem bxrf(w:World)(x:Xt):∃W:World,W=w.alloc (.cells #[.string x.name,.int .i64 x.fro,.int .i64 x.til,.int .i64 x.most] 67)/\W.heap.size=w.heap.size+1/\Below w.heap.size w W/\W.heap[w.heap.size]? =some (.cells #[.string x.name,.int .i64 x.fro,.int .i64 x.til,.int .i64 x.most] 67):=boxed w _
end Go.Proofs.YtdcahhbipeaggaaGreatDoor
