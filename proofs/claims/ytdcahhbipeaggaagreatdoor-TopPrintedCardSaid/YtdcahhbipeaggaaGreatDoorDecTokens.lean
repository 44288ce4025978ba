/- Lemmas for TopPrinted: House, OwnSt, DecLib, Digits, DecNum, DecTok, DecSym, DecTokens. -/
import Derived.Test.YtdcahhbipeaggaaGreatDoorRefSet
import Derived.Maps.AppendAt
import Derived.OneCell
import Derived.Lib.Strings
import Derived.Test.YtdcahhbipeaggaaGreatDoorShelf
import Derived.Lib.AppendIntMem
import Derived.Lib.ItoaNum
import Derived.Lib.IndexMore
import Derived.Lib.Bytealg
import Derived.Deep.DeepCutAuto
set_option maxRecDepth 100000
set_option maxHeartbeats 16000000
namespace Go.Proofs.YtdcahhbipeaggaaGreatDoor
open Go.RowKit
def Ji(h:Xf):Bool:=XF h.name&&decide (1<=h.aH)&&decide (h.aH<=1048576)&&decide (h.aA.l.length<=60)&&Y6 h.aB.l
def setAt(l:List Xd)(aH:Int)(i:Nat)(s:Xd):Bool:=X0 s&&decide (s.high<=aH)&&decide (YY l s.name=(i:Int))
def Xv(h:Xf):Bool:=Ji h&&X8 (setAt h.aA.l h.aH) h.aA.l
theorem Zj{h:Xf}:Ji h=true↔XF h.name=true/\1<=h.aH/\h.aH<=1048576/\(h.aA.l.length:Int)<=60/\Y6 h.aB.l=true:=by
 simp only[Ji,bae,decide_eq_true_eq,and_assoc];constructor<;>(rintro⟨a,b,c,d,e⟩;exact⟨a,b,c,by omega,e⟩)
theorem Xl8{h:Xf}(hh:Ji h=false):Xv h=false:=by rw[Xv,hh];rfl
theorem Xpr{h:Xf}{k:Nat}{s:Xd}(hs:h.aA.l[k]? =some s)(hn:setAt h.aA.l h.aH k s=false):Xv h=false:=by rw[Xv,YP hs hn,Bool.and_false]
theorem XnB{h:Xf}{k:Nat}(hh:Ji h=true)(hk:h.aA.l.length<=k)(hu:YA (setAt h.aA.l h.aH) h.aA.l k):Xv h=true:=by rw[Xv,hh,hu.all hk];rfl
theorem XqS{l:List Xd}{aH:Int}{k:Nat}{s:Xd}(h1:X0 s=true)(h2:s.high<=aH)(h3:(YY l s.name !=(k:Int))=false):setAt l aH k s=true:=by
 rw[bne_eq_false_iff_eq] at h3;rw[setAt,h1,decide_eq_true h2,decide_eq_true h3];rfl
theorem XqU{l:List Xd}{aH:Int}{k:Nat}{s:Xd}(h3:(YY l s.name !=(k:Int))=true):setAt l aH k s=false:=by
 rw[bne_iff_ne] at h3;rw[setAt,decide_eq_false h3,Bool.and_false]
theorem Xox{l:List Xd}{aH:Int}{k:Nat}{s:Xd}(h2:aH<s.high):setAt l aH k s=false:=by
 rw[setAt,decide_eq_false (show ¬s.high<=aH by omega),Bool.and_false,Bool.false_and]
theorem XqT{l:List Xd}{aH:Int}{k:Nat}{s:Xd}(h1:X0 s=false):setAt l aH k s=false:=by rw[setAt,h1];rfl
end Go.Proofs.YtdcahhbipeaggaaGreatDoor
namespace Go.Proofs.YtdcahhbipeaggaaGreatDoor
open Go Go.RowKit
theorem Xis{α:Type}{cells:α->List Value}{size:Nat}(hs:∀x,(cells x).length=size):∀(l:List α) (i:Nat) (x:α) (j:Nat) (u:Value),l[i]? =some x->(cells x)[j]? =some u->(l.flatMap cells)[i*size+j]? =some u
 |[],i,x,j,u,h,_=>by simp at h
 |y::l,0,x,j,u,h,hu=>by
  simp at h;subst h;have hj:j<(cells y).length:=(lgS hu).1;rw[List.flatMap_cons,Nat.zero_mul,Nat.zero_add,List.getElem?_append_left hj];exact hu
 |y::l,i+1,x,j,u,h,hu=>by
  have h':l[i]? =some x:=by simpa using h
  rw[List.flatMap_cons,List.getElem?_append_right (by rw[hs y,Nat.succ_mul];omega),hs y,show(i+1)*size+j-size=i*size+j by rw[Nat.succ_mul];omega];exact Xis hs l i x j u h' hu
structure X7{α:Type}(t:TypeId)(size:Nat)(cells:α->List Value)(W:World)(v:Value)(l:List α)(x:World):Prop where
 own:x.ownsRow W.heap.size t size v l.length (l.flatMap cells)
 bel:Below W.heap.size W x
section
variable {α:Type} {t:TypeId} {size:Nat} {cells:α->List Value} {W x y z u:World} {v v':Value} {l ls:List α}
theorem X7.start(t:TypeId)(size:Nat)(cells:α->List Value)(hb:Below W.heap.size W x):X7 t size cells W (.slice none 0 0) [] x:=⟨XfH _ _ _ _,hb⟩
theorem X7.more(h:X7 t size cells W v l x)(hb:Below x.heap.size x y):X7 t size cells W v l y:=⟨J1 h.own hb,h.bel.trans (hb.mono h.bel.size)⟩
theorem X7.append(h:X7 t size cells W v l z)(hu:Below z.heap.size z u)(hC:y.ownsRow W.heap.size t size v' (l.length+ls.length) (l.flatMap cells++ls.flatMap cells))(hD:u.grownBy y v.ownBlock):X7 t size cells W v' (l++ls) y:=by
 refine⟨by rw[List.length_append,List.flatMap_append];exact hC,h.bel.trans ?_⟩;exact Below.grown (hu.mono h.bel.size) hD (Nat.le_trans h.bel.size hu.size) (Xb2 h.own)
theorem X7.slAt(hs:∀x,(cells x).length=size)(h:X7 t size cells W v l x):∃A cap,v=.slice A l.length cap/\XA x x.heap.size size cells ⟨A,cap,l⟩:=by
 rcases h.own.2 with ⟨hv,h0⟩|⟨g,cap,cur,hv,hg,hh,hD,hE,hH,hC⟩
 ·have hl:l=[]:=List.eq_nil_of_length_eq_zero h0;subst hl;exact⟨none,0,hv,by simp,by simp,λhn=>absurd hn (by simp)⟩
 ·refine⟨_,cap,hv,hD,hE,λ_=>⟨g,0,rfl,(agS hh).1,λi x hx j u hu=> ?_⟩⟩;have h1:=Xis hs l i x j u hx hu;rw[<-hC] at h1;have hi:=(lgS hx).1;have hj:=(lgS hu).1;rw[hs] at hj;have hG:i*size+j<l.length*size:=by
   have:(i+1)*size<=l.length*size:=Nat.mul_le_mul_right size hi;rw[Nat.succ_mul] at this;omega
  rw[List.getElem?_take_of_lt hG] at h1;rw[Lib.cell_of_heap hh,Nat.zero_add];simpa using h1
end
end Go.Proofs.YtdcahhbipeaggaaGreatDoor
namespace Go.Proofs.YtdcahhbipeaggaaGreatDoor
open Go.RowKit
def J9(w:World):Prop:=Lib.TabIs Tryz.prog w "internal/strconv.uint64pow10" .u64 Lib.pow10Tab/\0<w.heap.size/\∃m,w.cell? ⟨0,0,none⟩=some (.int .i64 m)
theorem J9.below{w w':World}(h:J9 w)(hb:Below w.heap.size w w'):J9 w':=by
 obtain⟨h1,h2,m,h3⟩:=h;exact⟨Lib.tabBelow_of_tabIs h1 w' hb,Nat.lt_of_lt_of_le h2 hb.size,m,(hb.cell h2).trans h3⟩
theorem Xhs(w:World)(n:Nat):Below w.heap.size w (w.drewN n):=⟨rfl,rfl,rfl,Nat.le_refl _,λ_ _=>rfl⟩
theorem XfO(n:Int)(h:I64 n)(w:World)(ht:J9 w):Calls Tryz.prog 75 #[.int .i64 n] w (Xc w (.string ⟨(Lib.itoa n).toArray⟩)):=
 (Tryz.strconv_Itoa n h.1 h.2 w ht.1).mono λe w' ⟨he,k,os,hw⟩=>⟨he,by rw[hw];exact Lib.below_grow _ w nr k os⟩
theorem Xew(s:ByteArray)(c:Int)(w:World):Calls Tryz.prog 127 #[.string s,.int .u8 c] w (Xc w (.int .i64 (Lib.indexByte s.data.toList c.toNat.toUInt8))):=
 (Tryz.strings_IndexByte s c w).mono λe w' ⟨he,hw⟩=>⟨he,by rw[hw];exact Below.refl _ _⟩
theorem XjS(s p:ByteArray)(w:World):Calls Tryz.prog 172 #[.string s,.string p] w (Xc w (.bool (Lib.hasPrefix s.data.toList p.data.toList))):=
 (Tryz.strings_HasPrefix s p w).mono λe w' ⟨he,hw⟩=>⟨he,by rw[hw];exact Below.refl _ _⟩
end Go.Proofs.YtdcahhbipeaggaaGreatDoor
namespace Go.Proofs.YtdcahhbipeaggaaGreatDoor
open Go Go.Lib
def ZB(c:UInt8):Bool:=QK (c.toNat:Int)
def Yd(u:Nat):Nat->List UInt8
 |0=>[]
 |j+1=>dg u j::Yd u j
theorem Xb3(u:Nat):∀j,(Yd u j).length=j
 |0=>rfl
 |j+1=>by simp[Yd,Xb3 u j]
theorem XvN(u a b:Nat):dg u (a+b)=dg (u/10^b) a:=by
 unfold dg;rw[Nat.div_div_eq_div_mul,<-Nat.pow_add,Nat.add_comm b a]
theorem Xer(u b:Nat):∀a,Yd u (a+b)=Yd (u/10^b) a++Yd u b
 |0=>by simp[Yd]
 |a+1=>by
  rw[Nat.add_right_comm];simp[Yd,Xer u b a,XvN]
theorem Xep(u:Nat):Yd u 1=[UInt8.ofNat (48+u % 10)]:=by simp[Yd,dg]
theorem XiL(u j:Nat):Yd u (j+1)=Yd (u/10) j++[UInt8.ofNat (48+u % 10)]:=by
 rw[Xer u 1 j,Xep,Nat.pow_one]
theorem XeF(u:Nat):decDigits u=Yd u (nDigits u):=by
 induction u using Nat.strongRecOn with
 |_ u ih=>
  by_cases h:u<10
  ·rw[decDigits,dif_pos h,nDigits_small h,Xep,Nat.mod_eq_of_lt h]
  ·rw[decDigits,dif_neg h,nDigits_big h,ih (u/10) (by omega),XiL]
def Xfl(n:Nat)(l:List UInt8):Nat:=l.foldl (λn c=>10*n+(c.toNat-48)) n
theorem Xh9(n:Nat):Xfl n []=n:=by unfold Xfl;rw[List.foldl_nil]
theorem Xgq(n:Nat)(c:UInt8)(l:List UInt8):Xfl n (c::l)=Xfl (10*n+(c.toNat-48)) l:=by unfold Xfl;rw[List.foldl_cons]
theorem XdZ:∀(l:List UInt8) (n:Nat),Xfl n l=n*10^l.length+Xfl 0 l
 |[],n=>by simp[Xh9]
 |c::l,n=>by
  simp only[Xgq,List.length_cons];rw[XdZ l (10*n+(c.toNat-48)),XdZ l (10*0+(c.toNat-48)),Nat.pow_succ,Nat.add_mul,Nat.mul_comm 10 n,Nat.mul_assoc,Nat.mul_comm 10 (10^l.length)];simp[Nat.add_assoc]
theorem Xuo(l:List UInt8)(n:Nat):n<=Xfl n l:=by
 rw[XdZ];have:1<=10^l.length:=Nat.one_le_pow _ _ (by decide);have:n*1<=n*10^l.length:=Nat.mul_le_mul_left _ this;omega
theorem XcO{c:UInt8}(h:ZB c=true):48<=c.toNat/\c.toNat<=57:=by
 have:48<=(c.toNat:Int)/\(c.toNat:Int)<=57:=by simpa[ZB,QK] using h
 omega
theorem Xti(u j:Nat):ZB (dg u j)=true:=by
 have hm:u/10^j % 10<10:=Nat.mod_lt _ (by decide);have:(dg u j).toNat=48+u/10^j % 10:=by
  unfold dg;exact UInt8.toNat_ofNat_of_lt' (by simp only[UInt8.size];omega)
 simp[ZB,QK,this];omega
theorem XtV(u j:Nat):(dg u j).toNat=48+u/10^j % 10:=by
 have hm:u/10^j % 10<10:=Nat.mod_lt _ (by decide);unfold dg;exact UInt8.toNat_ofNat_of_lt' (by simp only[UInt8.size];omega)
theorem Xeq(u:Nat):∀j,(Yd u j).all ZB=true
 |0=>rfl
 |j+1=>by simp[Yd,Xti,Xeq u j]
theorem QV(u:Nat):(decDigits u).all ZB=true:=by rw[XeF];exact Xeq _ _
theorem XmD(u:Nat):∀j,Xfl 0 (Yd u j)=u % 10^j
 |0=>by simp[Yd,Xh9,Nat.mod_one]
 |j+1=>by
  simp only[Yd,Xgq];rw[XdZ,Xb3,XmD u j,XtV,Nat.mod_pow_succ];simp[Nat.mul_comm,Nat.add_comm]
theorem Xfk(u:Nat):Xfl 0 (decDigits u)=u:=by
 rw[XeF,XmD,Nat.mod_eq_of_lt (lt_pow_nDigits u)]
end Go.Proofs.YtdcahhbipeaggaaGreatDoor
namespace Go.Proofs.YtdcahhbipeaggaaGreatDoor
open Go
def XdX(l:List UInt8)(i j:Nat):Prop:=∀m,i<=m->m<j->∃c,l[m]? =some c/\ZB c=true
theorem XdX.start(l:List UInt8)(i:Nat):XdX l i i:=λm h1 h2=>by omega
theorem XdX.next{l:List UInt8}{i j:Nat}{c:UInt8}(h:XdX l i j)(hc:l[j]? =some c)(hd:ZB c=true):XdX l i (j+1):=λm h1 h2=>by
 by_cases e:m=j
 ·subst e;exact⟨c,hc,hd⟩
 ·exact h m h1 (by omega)
theorem XnD{s:ByteArray}(h:0<s.size):(bs s).head? =some s[0]:=by rw[List.head?_eq_getElem?,XcQ s 0 h]
end Go.Proofs.YtdcahhbipeaggaaGreatDoor
namespace Go.Proofs.YtdcahhbipeaggaaGreatDoor
open Go
def Yz:List UInt8->Nat
 |[]=>0
 |c::l=>if ZB c then Yz l+1 else 0
theorem Xk4(l:List UInt8):Yz l<=l.length:=by
 induction l with
 |nil=>simp[Yz]
 |cons c l ih=>unfold Yz;split<;>simp<;>omega
theorem Xhp:∀(l:List UInt8) (k:Nat),(∀j,j<k->∃c,l[j]? =some c/\ZB c=true)->(∀c,l[k]? =some c->ZB c=false)->k<=l.length->Yz l=k
 |[],k,_,_,hk=>by simp[Yz] at*;omega
 |c::l,0,_,h,_=>by simp[Yz,h c rfl]
 |c::l,k+1,h,h',hk=>by
  obtain⟨c',hC,hw⟩:=h 0 (by omega);simp at hC;subst hC;simp only[Yz,hw,if_true];rw[Xhp l k (λj hj=>by simpa using h (j+1) (by omega)) (λc hc=>h' c (by simpa using hc)) (by simpa using hk)]
def Jv(l:List UInt8)(i:Nat):Bool:=l[i]? ==some 46&&(match l[i+1]? with|some c=>ZB c|none=>false)
def Qd(l:List UInt8):Nat:=if Jv l (Yz l) then Yz l+1+Yz (l.drop (Yz l+1)) else Yz l
def Xlf:List UInt8:=[45,43,58,44,59,47,61,40,41,60,62,42]
def Xia(l:List UInt8):Bool:=[62,61].isPrefixOf l||[60,61].isPrefixOf l||[58,61].isPrefixOf l
def XuH(c:UInt8):Bool:=Xlf.contains c
def Z9(l:List UInt8):Nat:=if Xia l then 2 else if XuH (l.headD 0) then 1 else 0
def Q7:List UInt8->Nat
 |[]=>0
 |c::l=>if c=10 then 0 else Q7 l+1
theorem Xsa(l:List UInt8):Q7 l<=l.length:=by
 induction l with
 |nil=>simp[Q7]
 |cons c l ih=>unfold Q7;split<;>simp<;>omega
theorem Xmr(l:List UInt8):Lib.indexByte l 10=if Q7 l<l.length then(Q7 l:Int) else-1:=by
 induction l with
 |nil=>simp[Q7,Lib.indexByte]
 |cons c l ih=>
  by_cases hc:c=10
  ·subst hc;simp[Q7,Lib.indexByte]
  ·have hb:(c==10)=false:=by simpa using hc
   simp only[Lib.indexByte,Q7,hb,hc,if_false,ih,List.length_cons];by_cases h:Q7 l<l.length
   ·simp[h]
   ·simp[h]
inductive Tk where
 |blank (n:Nat)
 |line
 |tok (kind:Int) (n:Nat)
 |bad
def Zv:List UInt8->Tk
 |[]=> .bad
 |c::l=>
  if c=32\/c=9 then .blank 1
  else if c=10 then .line
  else if c=35 then .blank (Q7 (c::l))
  else if YX (c.toNat:Int) then(if X6 (c::l)<=20 then .tok 1 (X6 (c::l)) else .bad)
  else if ZB c then .tok 2 (Qd (c::l))
  else if Z9 (c::l)=0 then .bad else .tok 3 (Z9 (c::l))
structure Xh where
 kind:Int
 text:ByteArray
 line:Int
 col:Int
inductive Xjl where
 |good (l:List Xh)
 |bad (line col:Int)
def Xbu:Nat->List Xh->List UInt8->Int->Int->Xjl
 |0,_,_,_,_=> .bad 0 0
 |_+1,acc,[],line,col=> .good (acc++[⟨5,⟨#[]⟩,line,col⟩])
 |f+1,acc,c::l,line,col=>
  match Zv (c::l) with
  |.blank n=>Xbu f acc ((c::l).drop n) line (col+n)
  |.line=>Xbu f (acc++[⟨4,⟨#[]⟩,line,col⟩]) l (line+1) 1
  |.tok k n=>Xbu f (acc++[⟨k,⟨((c::l).take n).toArray⟩,line,col⟩]) ((c::l).drop n) line (col+n)
  |.bad=> .bad line col
def toks(l:List UInt8):Xjl:=Xbu (l.length+1) [] l 1 1
theorem XiF{c:UInt8}{l:List UInt8}(h:ZB c=true):1<=Qd (c::l):=by
 have:1<=Yz (c::l):=by simp[Yz,h]
 unfold Qd;split<;>omega
theorem XkG(l:List UInt8):Qd l<=l.length:=by
 unfold Qd;split
 ·rename_i h
  have h1:=Xk4 (l.drop (Yz l+1));have:Yz l<l.length:=by
   unfold Jv at h;rw[bae] at h;have:=h.1;rw[beq_iff_eq] at this;exact(lgS this).1
  rw[List.length_drop] at h1;omega
 ·exact Xk4 l
theorem XgZ{c:UInt8}{l:List UInt8}(h:YX (c.toNat:Int)=true):1<=X6 (c::l):=by simp[X6,JR,h]
theorem XbF:∀(p l:List UInt8),p.isPrefixOf l=true->p.length<=l.length
 |[],l,_=>by simp
 |c::p,[],h=>by simp[List.isPrefixOf] at h
 |c::p,d::l,h=>by
  simp only[List.isPrefixOf,bae] at h;have:=XbF p l h.2;simp;omega
theorem Xkk{c:UInt8}{l:List UInt8}:Z9 (c::l)<=(c::l).length:=by
 unfold Z9;split
 ·rename_i h
  unfold Xia at h;simp only[Bool.or_eq_true] at h;rcases h with (h|h)|h<;>exact XbF _ _ h
 ·split<;>simp
def YE(R:Xjl)(acc:List Xh)(l:List UInt8)(line col:Int):Prop:=∃f,l.length<f/\Xbu f acc l line col=R
section
variable {R:Xjl} {acc:List Xh} {l:List UInt8} {line col:Int}
theorem YE.start(l:List UInt8):YE (toks l) [] l 1 1:=⟨l.length+1,Nat.lt_succ_self _,rfl⟩
theorem YE.blank{n:Nat}(h:YE R acc l line col)(h0:0<l.length)(hk:Zv l=.blank n)(hn:1<=n):YE R acc (l.drop n) line (col+n):=by
 obtain⟨f,hf,e⟩:=h;cases l with
 |nil=>simp at h0
 |cons c l=>
  cases f with
  |zero=>simp at hf
  |succ f=>
   rw[Xbu,hk] at e;exact⟨f,by simp only[List.length_drop,List.length_cons] at hf ⊢;omega,e⟩
theorem YE.tok{k:Int}{n:Nat}(h:YE R acc l line col)(h0:0<l.length)(hk:Zv l=.tok k n)(hn:1<=n):YE R (acc++[⟨k,⟨(l.take n).toArray⟩,line,col⟩]) (l.drop n) line (col+n):=by
 obtain⟨f,hf,e⟩:=h;cases l with
 |nil=>simp at h0
 |cons c l=>
  cases f with
  |zero=>simp at hf
  |succ f=>
   rw[Xbu,hk] at e;exact⟨f,by simp only[List.length_drop,List.length_cons] at hf ⊢;omega,e⟩
theorem YE.lineEnd(h:YE R acc l line col)(h0:0<l.length)(hk:Zv l=.line):YE R (acc++[⟨4,⟨#[]⟩,line,col⟩]) (l.drop 1) (line+1) 1:=by
 obtain⟨f,hf,e⟩:=h;cases l with
 |nil=>simp at h0
 |cons c l=>
  cases f with
  |zero=>simp at hf
  |succ f=>
   rw[Xbu,hk] at e;exact⟨f,by simp only[List.length_drop,List.length_cons] at hf ⊢;omega,e⟩
theorem YE.bad(h:YE R acc l line col)(h0:0<l.length)(hk:Zv l=.bad):R=.bad line col:=by
 obtain⟨f,hf,e⟩:=h;cases l with
 |nil=>simp at h0
 |cons c l=>
  cases f with
  |zero=>simp at hf
  |succ f=>
   rw[Xbu,hk] at e;exact e.symm
theorem YE.done(h:YE R acc l line col)(h0:l.length=0):R=.good (acc++[⟨5,⟨#[]⟩,line,col⟩]):=by
 obtain⟨f,hf,e⟩:=h;cases l with
 |cons c l=>simp at h0
 |nil=>
  cases f with
  |zero=>simp at hf
  |succ f=>rw[Xbu] at e;exact e.symm
end
theorem Xge{s:ByteArray}(h0:0<s.size):∃l,bs s=s[0]::l:=by
 have:=XcQ s 0 h0;cases hb:bs s with
 |nil=>rw[hb] at this;simp at this
 |cons c l=>rw[hb] at this;simp at this;exact⟨l,by rw[this]⟩
theorem Xce(c:UInt8)(n:Nat)(hn:n<256):(c=UInt8.ofNat n)↔((c.toNat:Int)==(n:Int))=true:=by
 rw[beq_iff_eq];have e:(UInt8.ofNat n).toNat=n:=UInt8.toNat_ofNat_of_lt' (by simpa[UInt8.size] using hn);constructor
 ·intro h;rw[h,e]
 ·intro h;exact UInt8.toNat_inj.1 (by rw[e];omega)
theorem Xrh{s:ByteArray}(h0:0<s.size):Zv (bs s)=
 if (((s[0].toNat:Int)==32)||((s[0].toNat:Int)==9))=true then .blank 1
 else if ((s[0].toNat:Int)==10)=true then .line
 else if ((s[0].toNat:Int)==35)=true then .blank (Q7 (bs s))
 else if YX (s[0].toNat:Int)=true then(if X6 (bs s)<=20 then .tok 1 (X6 (bs s)) else .bad)
 else if QK (s[0].toNat:Int)=true then .tok 2 (Qd (bs s))
 else if Z9 (bs s)=0 then .bad else .tok 3 (Z9 (bs s)):=by
 obtain⟨l,hl⟩:=Xge h0;rw[hl];have e32:=Xce s[0] 32 (by decide);have e9:=Xce s[0] 9 (by decide);have e10:=Xce s[0] 10 (by decide);have e35:=Xce s[0] 35 (by decide);unfold Zv ZB;simp only[Bool.or_eq_true];congr 1
 ·exact propext (or_congr e32 e9)
 ·congr 1
  ·exact propext e10
  ·congr 1;exact propext e35
end Go.Proofs.YtdcahhbipeaggaaGreatDoor
namespace Go.Proofs.YtdcahhbipeaggaaGreatDoor
open Go.RowKit
theorem XdX.len{s:ByteArray}{i k:Nat}(h:XdX (bs s) i k)(hi:i<=k)(hk:k<=s.size)(hn:∀c,(bs s)[k]? =some c->ZB c=false):i+Yz ((bs s).drop i)=k:=by
 rw[Xhp ((bs s).drop i) (k-i) (λj hj=>by simpa using h (i+j) (by omega) (by omega)) (λc hc=>hn c (by rw[List.getElem?_drop] at hc;rw[<-hc];congr 1;omega)) (by simp[XO];omega)];omega
theorem Xqr{s:ByteArray}{k:Nat}(h:s.size<=k)(c:UInt8):(bs s)[k]? =some c->ZB c=false:=λhc=>by
 have:=(lgS hc).1;rw[XO] at this;omega
theorem Xt1{s:ByteArray}{k:Nat}(h:k<s.size)(hd:QK (s[k].toNat:Int)=false)(c:UInt8):(bs s)[k]? =some c->ZB c=false:=λhc=>by
 rw[XcQ s k h] at hc;injection hc with hc;rw[<-hc];exact hd
theorem Xd6{l:List UInt8}{k:Nat}(h:Yz l=k)(hp:Jv l k=false):Qd l=k:=by
 unfold Qd;rw[h,hp];rfl
theorem XiE{l:List UInt8}{k m:Nat}(h:Yz l=k)(hp:Jv l k=true)(h2:k+1+Yz (l.drop (k+1))=m):Qd l=m:=by
 unfold Qd;rw[h,hp];exact h2
theorem Xm9(s:ByteArray)(w:World)(hs:s.size<=1000000):Calls Tryz.prog 129 #[.string s] w (Xc w (.int .i64 (Qd (bs s)))):=by
 go_enter Tryz.func129,Tryz.ntmps129;go_wp2;go_loopw [3] (λv wr=>∃k:Nat,v=.int .i64 k/\k<=s.size/\Hid (XdX (bs s) 0 k)/\∃x:Xb w.heap.size w,wr=x.val) (λv _=>s.size-(intOf v).toNat)
 case atStart=>exact⟨0,rfl,by omega,Xa (XdX.start _ _),Xb.refl _ _,rfl⟩
 case round=>
  obtain⟨k,rfl,hk,hD,x,rfl⟩:=hrel;by_cases hN:k<s.size
  ·have hb:=XcQ s k hN;cases hd:QK (s[k].toNat:Int)
   ·have HL:=Xa (show Yz (bs s)=k by have:=hD.out.len nzl hk (Xt1 hN hd);simpa using this);have KD:=Xa (hd▸QB (s[k].toNat:Int) x.val);by_cases h1:k+1<s.size
    ·have hH:=XcQ s (k+1) h1;cases hJ:((s[k].toNat:Int)==46)
     ·have HP:=Xa (Xd6 HL.out (by unfold Jv;rw[hb];have:¬s[k]=46:=λe=>(by rw[e] at hJ;simp at hJ);simp[this]));clear hb hH hd;go_wp2_with (go_at_call 128;refine(Xc.after nr KD.out).mono ?_;rintro e w' ⟨rfl,y,rfl⟩)
      go_ret;exact Xc.mk (congrArg (Value.int .i64) (by rw[HP.out])) (Xb.below _)
     ·have e46:(bs s)[k]? =some 46:=by rw[hb];congr 1;rw[beq_iff_eq] at hJ;exact UInt8.toNat_inj.1 (show s[k].toNat=46 by omega)
      cases hE:QK (s[k+1].toNat:Int)
      ·have HP:=Xa (Xd6 HL.out (by unfold Jv;rw[e46,hH];simp[ZB,hE]));have hK:=Xa λx:Xb w.heap.size w=>Xc.after (x:=x) nr (hE▸QB (s[k+1].toNat:Int) x.val);clear hb hH hd hE e46;go_wp2_with fail;refine(Xc.after nr KD.out).mono ?_;rintro e w' ⟨rfl,y,rfl⟩;go_wp2_with fail;refine(hK.out y).mono ?_;rintro e w' ⟨rfl,y2,rfl⟩;go_wp2;go_ret;exact Xc.mk (congrArg (Value.int .i64) (by rw[HP.out])) (Xb.below _)
      ·have HP:=Xa (show Jv (bs s) k=true by unfold Jv;rw[e46,hH];simpa[ZB] using hE);have hK:=Xa λx:Xb w.heap.size w=>Xc.after (x:=x) nr (hE▸QB (s[k+1].toNat:Int) x.val);clear hb hH hd hE e46;go_wp2_with fail;refine(Xc.after nr KD.out).mono ?_;rintro e w' ⟨rfl,y,rfl⟩;go_wp2_with fail;refine(hK.out y).mono ?_;rintro e w' ⟨rfl,y2,rfl⟩;go_wp2;go_loopw [3] (λv wr=>∃m:Nat,v=.int .i64 m/\k+1<=m/\m<=s.size/\Hid (XdX (bs s) (k+1) m)/\∃x:Xb w.heap.size w,wr=x.val) (λv _=>s.size-(intOf v).toNat)
       case atStart=>exact⟨k+1,by go_num,Nat.le_refl _,by omega,Xa (XdX.start _ _),_,rfl⟩
       case round=>
        obtain⟨m,rfl,hO,hm,hC,x2,rfl⟩:=hrel;by_cases hI:m<s.size
        ·have hL:=XcQ s m hI;cases hG:QK (s[m].toNat:Int)
         ·have HE:=Xa (XiE HL.out HP.out (hC.out.len hO hm (Xt1 hI hG)));have hM:=Xa (hG▸QB (s[m].toNat:Int) x2.val);clear hL hG;go_wp2_with (go_at_call 128;refine(Xc.after nr hM.out).mono ?_;rintro e w' ⟨rfl,y,rfl⟩)
          go_ret;exact Xc.mk (congrArg (Value.int .i64) (by rw[HE.out])) (Xb.below _)
         ·have HN:=Xa (hC.out.next hL hG);have hM:=Xa (hG▸QB (s[m].toNat:Int) x2.val);clear hL hG;go_wp2_with fail;refine(Xc.after nr hM.out).mono ?_;rintro e w' ⟨rfl,y,rfl⟩;go_wp2;exact⟨⟨m+1,by go_num,by omega,by omega,HN,y,rfl⟩,by simp[intOf];omega⟩
        ·have HE:=Xa (XiE HL.out HP.out (hC.out.len hO hm (Xqr (by omega))));go_wp2;go_ret;exact Xc.mk (congrArg (Value.int .i64) (by rw[HE.out])) (Xb.below _)
    ·have HP:=Xa (Xd6 HL.out (by unfold Jv;rw[List.getElem?_eq_none (i:=k+1) (by rw[XO];omega)];simp));clear hb hd;go_wp2_with (go_at_call 128;refine(Xc.after nr KD.out).mono ?_;rintro e w' ⟨rfl,y,rfl⟩)
     go_ret;exact Xc.mk (congrArg (Value.int .i64) (by rw[HP.out])) (Xb.below _)
   ·have HN:=Xa (hD.out.next hb hd);have KD:=Xa (hd▸QB (s[k].toNat:Int) x.val);clear hb hd;go_wp2_with fail;refine(Xc.after nr KD.out).mono ?_;rintro e w' ⟨rfl,y,rfl⟩;go_wp2;exact⟨⟨k+1,by go_num,by omega,HN,y,rfl⟩,by simp[intOf];omega⟩
  ·have HL:=Xa (show Yz (bs s)=k by have:=hD.out.len nzl hk (Xqr (by omega));simpa using this);have HP:=Xa (Xd6 HL.out (by unfold Jv;rw[List.getElem?_eq_none (i:=k) (by rw[XO];omega)];rfl));have h1:¬k+1<s.size:=by omega
   go_wp2;go_ret;exact Xc.mk (congrArg (Value.int .i64) (by rw[HP.out])) (Xb.below _)
theorem XsU:∀k:Fin 256,decide (0<=Lib.indexByte Xlf (UInt8.ofNat k.val))=XuH (UInt8.ofNat k.val):=by decide+kernel
theorem XoS(c:UInt8):decide (0<=Lib.indexByte Xlf c)=XuH c:=by
 have:=XsU ⟨c.toNat,c.toNat_lt⟩;simpa using this
theorem Xup{l:List UInt8}(h1:Lib.hasPrefix l [62,61]=false)(h2:Lib.hasPrefix l [60,61]=false)(h3:Lib.hasPrefix l [58,61]=false):Xia l=false:=by
 unfold Xia;unfold Lib.hasPrefix at h1 h2 h3;rw[h1,h2,h3];rfl
theorem XeP{l:List UInt8}(h:Xia l=true):Z9 l=2:=by simp[Z9,h]
theorem Xol{s:ByteArray}(h0:0<s.size)(h:Xia (bs s)=false):Z9 (bs s)=if (0:Int)<=Lib.indexByte Xlf s[0] then 1 else 0:=by
 have e:(bs s).headD 0=s[0]:=by rw[List.headD_eq_head?_getD,XnD h0];rfl
 unfold Z9;rw[h,e,<-XoS];simp
theorem Xgf(b:Bool):b=false\/b=true:=by cases b<;>simp
theorem Xok(s:ByteArray)(h0:0<s.size)(w:World):Calls Tryz.prog 130 #[.string s] w (Xc w (.int .i64 (Z9 (bs s)))):=by
 obtain⟨W,hW,hL,hG,hD⟩:=boxed w (.cells #[.string ⟨#[62,61]⟩,.string ⟨#[60,61]⟩,.string ⟨#[58,61]⟩] 9);have hH:=λy:Xb W.heap.size W=>Xb.cells hD (by omega) y 0 (.string ⟨#[62,61]⟩) rfl;have hI:=λy:Xb W.heap.size W=>Xb.cells hD (by omega) y 1 (.string ⟨#[60,61]⟩) rfl;have hJ:=λy:Xb W.heap.size W=>Xb.cells hD (by omega) y 2 (.string ⟨#[58,61]⟩) rfl;have hK:=bdo hG;have KP:=Xa λ(p:ByteArray) (y:Xb W.heap.size W)=>Xc.after (x:=y) nr (XjS s p y.val);have HW:=Xa hW;have hC:=Xa hK;have HC:=Xa (And.intro hH (And.intro hI hJ));clear hW hL hD hG hK hH hI hJ
 go_enter Tryz.func130,Tryz.ntmps130;go_wp2;rw[<-HW.out];go_loopw [7] (λv wr=>∃y:Xb W.heap.size W,wr=y.val/\(v=.int .i64 0\/(v=.int .i64 1/\Hid (Lib.hasPrefix (bs s) [62,61]=false))\/(v=.int .i64 2/\Hid (Lib.hasPrefix (bs s) [62,61]=false/\Lib.hasPrefix (bs s) [60,61]=false))\/(v=.int .i64 3/\Hid (Xia (bs s)=false)))) (λv _=>3-(intOf v).toNat)
 case atStart=>exact⟨Xb.refl _ _,rfl,Or.inl rfl⟩
 case round=>
  obtain⟨y,rfl,hv⟩:=hrel;obtain⟨c0,c1,c2⟩:=HC.out;have c0:=c0 y;have c1:=c1 y;have c2:=c2 y;rcases hv with rfl|⟨rfl,hp⟩|⟨rfl,hp⟩|⟨rfl,hp⟩
  ·clear c1 c2;rcases Xgf (Lib.hasPrefix (bs s) [62,61]) with h|h
   ·have K:=Xa (by have:=KP.out ⟨#[62,61]⟩ y;rw[<-Yk,show(⟨#[62,61]⟩:ByteArray).data.toList=[62,61] from rfl,h] at this;exact this);have H:=Xa h;clear h;go_wp2_with fail;refine K.out.mono ?_;rintro e w' ⟨rfl,y2,rfl⟩;go_wp2;exact⟨⟨y2,rfl,Or.inr (Or.inl ⟨by go_num,H⟩)⟩,by simp[intOf]⟩
   ·have K:=Xa (by have:=KP.out ⟨#[62,61]⟩ y;rw[<-Yk,show(⟨#[62,61]⟩:ByteArray).data.toList=[62,61] from rfl,h] at this;exact this);have H:=Xa (XeP (l:=bs s) (by unfold Xia;unfold Lib.hasPrefix at h;rw[h];rfl));clear h;go_wp2_with fail;refine K.out.mono ?_;rintro e w' ⟨rfl,y2,rfl⟩;go_wp2;go_ret;exact Xc.mk (congrArg (Value.int .i64) (by rw[H.out];rfl)) (hC.out y2)
  ·clear c0 c2;rcases Xgf (Lib.hasPrefix (bs s) [60,61]) with h|h
   ·have K:=Xa (by have:=KP.out ⟨#[60,61]⟩ y;rw[<-Yk,show(⟨#[60,61]⟩:ByteArray).data.toList=[60,61] from rfl,h] at this;exact this);have H:=Xa (And.intro hp.out h);clear h;go_wp2_with fail;refine K.out.mono ?_;rintro e w' ⟨rfl,y2,rfl⟩;go_wp2;exact⟨⟨y2,rfl,Or.inr (Or.inr (Or.inl ⟨by go_num,H⟩))⟩,by simp[intOf]⟩
   ·have K:=Xa (by have:=KP.out ⟨#[60,61]⟩ y;rw[<-Yk,show(⟨#[60,61]⟩:ByteArray).data.toList=[60,61] from rfl,h] at this;exact this);have H:=Xa (XeP (l:=bs s) (by unfold Xia;unfold Lib.hasPrefix at h;rw[h];simp));clear h;go_wp2_with fail;refine K.out.mono ?_;rintro e w' ⟨rfl,y2,rfl⟩;go_wp2;go_ret;exact Xc.mk (congrArg (Value.int .i64) (by rw[H.out];rfl)) (hC.out y2)
  ·clear c0 c1;rcases Xgf (Lib.hasPrefix (bs s) [58,61]) with h|h
   ·have K:=Xa (by have:=KP.out ⟨#[58,61]⟩ y;rw[<-Yk,show(⟨#[58,61]⟩:ByteArray).data.toList=[58,61] from rfl,h] at this;exact this);have H:=Xa (Xup hp.out.1 hp.out.2 h);clear h;go_wp2_with fail;refine K.out.mono ?_;rintro e w' ⟨rfl,y2,rfl⟩;go_wp2;exact⟨⟨y2,rfl,Or.inr (Or.inr (Or.inr ⟨by go_num,H⟩))⟩,by simp[intOf]⟩
   ·have K:=Xa (by have:=KP.out ⟨#[58,61]⟩ y;rw[<-Yk,show(⟨#[58,61]⟩:ByteArray).data.toList=[58,61] from rfl,h] at this;exact this);have H:=Xa (XeP (l:=bs s) (by unfold Xia;unfold Lib.hasPrefix at h;rw[h];simp));clear h;go_wp2_with fail;refine K.out.mono ?_;rintro e w' ⟨rfl,y2,rfl⟩;go_wp2;go_ret;exact Xc.mk (congrArg (Value.int .i64) (by rw[H.out];rfl)) (hC.out y2)
  ·clear c0 c1 c2;obtain⟨ix,hE⟩:∃ix:Int,ix=Lib.indexByte Xlf s[0]:=⟨_,rfl⟩
   have K:=Xa (by have:=Xc.after (x:=y) nr (Xew ⟨#[45,43,58,44,59,47,61,40,41,60,62,42]⟩ (s[0].toNat:Int) y.val);rw[show(⟨#[45,43,58,44,59,47,61,40,41,60,62,42]⟩:ByteArray).data.toList=Xlf from rfl,show((s[0].toNat:Int)).toNat.toUInt8=s[0] by simp,<-hE] at this;exact this);have H:=Xa (Xol h0 hp.out);rw[<-hE] at H;clear hE;by_cases hx:0<=ix
   ·go_wp2_with fail;refine K.out.mono ?_;rintro e w' ⟨rfl,y2,rfl⟩;go_wp2;go_ret;exact Xc.mk (congrArg (Value.int .i64) (by rw[H.out];simp[hx])) (hC.out y2)
   ·go_wp2_with fail;refine K.out.mono ?_;rintro e w' ⟨rfl,y2,rfl⟩;go_wp2;go_ret;exact Xc.mk (congrArg (Value.int .i64) (by rw[H.out,if_neg (show ¬(0:Int)<=ix by omega)];rfl)) (hC.out y2)
end Go.Proofs.YtdcahhbipeaggaaGreatDoor
namespace Go.Proofs.YtdcahhbipeaggaaGreatDoor
open Go.RowKit
def Xh.cells(t:Xh):List Value:=[.int .i64 t.kind,.string t.text,.int .i64 t.line,.int .i64 t.col]
def YF(l:List Xh):List Value:=l.flatMap Xh.cells
theorem XhA(a b:List Xh):YF (a++b)=YF a++YF b:=by simp[YF]
theorem Xln(t:Xh):YF [t]=Xh.cells t:=by simp[YF]
def Xvp(w:World):Xjl->Ending->World->Prop
 |.good l,e,w'=>Below w.heap.size w w'/\∃v,e=.returned (.tuple #[v,.agg #[.int .i64 0,.int .i64 0],.int .i64 0])/\w'.ownsRow w.heap.size 174 4 v l.length (YF l)
 |.bad a b,e,w'=>Below w.heap.size w w'/\e=.returned (.tuple #[.slice none 0 0,.agg #[.int .i64 a,.int .i64 b],.int .i64 7])
theorem XrH:(Tryz.prog.info? 174).map (λi=>(i.zero,i.size,i.bytes))=some (some (.agg #[.int .i64 0,.string ⟨#[]⟩,.int .i64 0,.int .i64 0]),4,40):=by kernel_rfl
structure Yg(w:World)(tv:Value)(acc:List Xh)(line col:Int)(wr:World):Prop where
 below:Below w.heap.size w wr
 res:wr.heap[w.heap.size]? =some (.cells #[.int .i64 0,.int .i64 0] 39 (0,0))
 pos:wr.heap[w.heap.size+1]? =some (.cells #[.int .i64 line,.int .i64 col] 39 (0,0))
 own:wr.ownsRow (w.heap.size+2) 174 4 tv acc.length (YF acc)
section
variable {w:World} {tv:Value} {acc:List Xh} {line col:Int} {wr:World}
theorem Yg.size(h:Yg w tv acc line col wr):w.heap.size+2<=wr.heap.size:=by
 rcases Nat.lt_or_ge (w.heap.size+1) wr.heap.size with h1|h1
 ·omega
 ·have:=h.pos;rw[Array.getElem?_eq_none h1] at this;cases this
theorem Yg.after(h:Yg w tv acc line col wr)(y:Xb wr.heap.size wr):Yg w tv acc line col y.val:=by
 have hs:=h.size;exact⟨h.below.trans (y.below.mono (by omega)),(y.below.block _ (by omega)).trans h.res,(y.below.block _ (by omega)).trans h.pos,J1 h.own y.below⟩
theorem Yg.setCol(h:Yg w tv acc line col wr)(n:Int):Yg w tv acc line n (wr.setCell ⟨w.heap.size+1,1,none⟩ (.int .i64 n)):=by
 refine⟨h.below.setCell (by show w.heap.size<=w.heap.size+1;omega) _,(Below.heap_setCell _ _ _ _ (by show w.heap.size≠w.heap.size+1;omega)).trans h.res,?_,?_⟩
 ·rw[Xx h.pos];rfl
 ·exact ownsRow_setCell_below h.own (by show w.heap.size+1<w.heap.size+2;omega) _
end
theorem Yg.append{w:World}{tv v':Value}{acc:List Xh}{line col:Int}{z w' u:World}{t:Xh}(h:Yg w tv acc line col z)(hu:Below z.heap.size z u)
 (hC:w'.ownsRow (w.heap.size+2) 174 4 v' (acc.length+1) (YF acc++Xh.cells t)) (hD:u.grownBy w' tv.ownBlock):Yg w v' (acc++[t]) line col w':=by
 have hs:=h.size;have hb:Below (w.heap.size+2) z w':=Below.grown (hu.mono (by omega)) hD (by have:=hu.size;omega) (Xb2 h.own);refine⟨h.below.trans (hb.mono (by omega)),(hb.block _ (by omega)).trans h.res,(hb.block _ (by omega)).trans h.pos,?_⟩;rw[XhA,Xln,List.length_append];exact hC
theorem Yg.cell0{w:World}{tv:Value}{acc:List Xh}{line col:Int}{z:World}(h:Yg w tv acc line col z):z.cell? ⟨w.heap.size+1,0,none⟩=some (.int .i64 line):=(cell_of_row z (w.heap.size+1) 0 _ _ _ h.pos).trans rfl
theorem Yg.cell1{w:World}{tv:Value}{acc:List Xh}{line col:Int}{z:World}(h:Yg w tv acc line col z):z.cell? ⟨w.heap.size+1,1,none⟩=some (.int .i64 col):=(cell_of_row z (w.heap.size+1) 1 _ _ _ h.pos).trans rfl
theorem Yg.free{w:World}{tv:Value}{acc:List Xh}{line col:Int}{z:World}(h:Yg w tv acc line col z)(i:Nat):z.frozen? ⟨w.heap.size+1,i,none⟩=false:=Xe h.pos i
theorem Yg.rcell0{w:World}{tv:Value}{acc:List Xh}{line col:Int}{z:World}(h:Yg w tv acc line col z):z.cell? ⟨w.heap.size,0,none⟩=some (.int .i64 0):=(cell_of_row z (w.heap.size) 0 _ _ _ h.res).trans rfl
theorem Yg.rcell1{w:World}{tv:Value}{acc:List Xh}{line col:Int}{z:World}(h:Yg w tv acc line col z):z.cell? ⟨w.heap.size,1,none⟩=some (.int .i64 0):=(cell_of_row z (w.heap.size) 1 _ _ _ h.res).trans rfl
theorem Yg.rfree{w:World}{tv:Value}{acc:List Xh}{line col:Int}{z:World}(h:Yg w tv acc line col z)(i:Nat):z.frozen? ⟨w.heap.size,i,none⟩=false:=Xe h.res i
theorem Xbh(S:ByteArray)(n:Nat):(S.extract n S.size).size=S.size-n:=by rw[ByteArray.size_extract];omega
theorem Yg.setPos{w:World}{tv:Value}{acc:List Xh}{line col:Int}{wr:World}(h:Yg w tv acc line col wr)(a b:Int):Yg w tv acc a b ((wr.setCell ⟨w.heap.size+1,0,none⟩ (.int .i64 a)).setCell ⟨w.heap.size+1,1,none⟩ (.int .i64 b)):=by
 refine⟨(h.below.setCell (by show w.heap.size<=w.heap.size+1;omega) _).setCell (by show w.heap.size<=w.heap.size+1;omega) _,?_,XR h.pos,?_⟩
 ·rw[Below.heap_setCell _ _ _ _ (by show w.heap.size≠w.heap.size+1;omega),Below.heap_setCell _ _ _ _ (by show w.heap.size≠w.heap.size+1;omega)];exact h.res
 ·exact ownsRow_setCell_below (ownsRow_setCell_below h.own (by show w.heap.size+1<w.heap.size+2;omega) _) (by show w.heap.size+1<w.heap.size+2;omega) _
theorem Yg.start(w:World):Yg w (.slice none 0 0) [] 1 1 ((w.alloc (.cells #[.int .i64 0,.int .i64 0] 39)).alloc (.cells #[.int .i64 1,.int .i64 1] 39)):=by
 refine⟨(brf.alloc nr _).alloc (by simp) _,?_,?_,XfH _ _ _ _⟩
 ·rw[Below.heap_alloc _ _ _ (by simp)];exact heap_alloc_new w _
 ·have:=heap_alloc_new (w.alloc (.cells #[.int .i64 0,.int .i64 0] 39)) (.cells #[.int .i64 1,.int .i64 1] 39);simpa using this
theorem Xvh(S:ByteArray)(n:Nat):bs (S.extract n S.size)=(bs S).drop n:=by
 rw[Yk,Yk,Lib.extract_data,List.take_of_length_le];rw[List.length_drop,<-Yk,XO];omega
theorem Xvg(S:ByteArray)(n:Nat):S.extract 0 n=⟨((bs S).take n).toArray⟩:=by
 rw[Lib.extract_eq,Yk];simp
theorem XjJ{c:Int}(h:YX c=true):65<=c/\c<=122:=by
 unfold YX at h;simp only[Bool.or_eq_true,bae,decide_eq_true_eq] at h;omega
theorem Xmm{c:Int}(h:QK c=true):48<=c/\c<=57:=by
 unfold QK at h;simp only[bae,decide_eq_true_eq] at h;omega
theorem Xoi(s:ByteArray)(hs:s.size<=262144)(w:World):Calls Tryz.prog 78 #[.string s] w (Xvp w (toks (bs s))):=by
 obtain⟨i8,hZ,pA,pB,pC⟩:=info_parts XrH;have HI:=Xa (And.intro hZ (And.intro pA (And.intro pB pC)));clear hZ pA pB pC;go_enter Tryz.func78,Tryz.ntmps78;go_wp2;go_loopw [0,5] (λsv tv wr=>∃(S:ByteArray) (acc:List Xh) (line col:Int),sv=.string S/\Hid (YE (toks (bs s)) acc (bs S) line col)/\S.size+acc.length<=262144/\1<=line/\line+S.size<=262145/\1<=col/\col+S.size<=262145/\Hid (Yg w tv acc line col wr)) (λsv _ _=>(match sv with|.string s=>s.size|_=>0))
 case atStart=>exact⟨s,[],1,1,rfl,Xa (YE.start _),by simpa using hs,by omega,by omega,by omega,by omega,Xa (Yg.start w)⟩
 case round=>
  obtain⟨S,acc,line,col,rfl,hf,pG,hK,pH,pQ,pI,pD⟩:=hrel;have hq:=pD.out;have pR:=hq.size;have pJ:=λy:Xb wr.heap.size wr=>(show y.val.cell? ⟨w.heap.size+1,0,none⟩=some (.int .i64 line) from(cell_of_row y.val (w.heap.size+1) 0 _ _ _ (hq.after y).pos).trans rfl)
  have pK:=λy:Xb wr.heap.size wr=>(show y.val.cell? ⟨w.heap.size+1,1,none⟩=some (.int .i64 col) from(cell_of_row y.val (w.heap.size+1) 1 _ _ _ (hq.after y).pos).trans rfl)
  have pL:=λy:Xb wr.heap.size wr=>Xe (hq.after y).pos 0;have pM:=λy:Xb wr.heap.size wr=>Xe (hq.after y).pos 1;have hH:=Xa λy:Xb wr.heap.size wr=>pD.out.after y;clear hq;rcases Nat.eq_zero_or_pos S.size with h0|h0
  ·have hn:S.toList=[]:=Xie h0;have HR:=Xa (hf.out.done (by rw[XO];exact h0));have pN:acc.length<=262144:=by omega
   clear h0 pG hf pH pI;have YR:wr=(Xb.refl wr.heap.size wr).val:=rfl;have HZ:=Xa (hH.out (Xb.refl wr.heap.size wr));go_wp2_with (at_builtin;refine Hid.out ?_)
   refine Lib.hid ?_;refine wpList_append_own _ rfl _ _ 94 rfl (w.heap.size+2) 174 i8 _ 4 40 Tryz.underlying94 HI.out.1 HI.out.2.1 HI.out.2.2.1 HI.out.2.2.2 rfl (by decide) _ _ _ rfl (HZ.out.own.alloc _) ⟨wr.heap.size,0,none⟩ 1 1 (Xh.cells ⟨5,⟨#[]⟩,line,col⟩) rfl rfl (World.news_of_block (heap_alloc_new wr _)) (λu hu=>by simp[Xh.cells] at hu;rcases hu with rfl|rfl|rfl|rfl<;>rfl) (by unfold maxLen;omega) (by omega) (by have:=HZ.out.size;simp;omega) ?_;intro v4 w4 hI hG _;have HN:=Xa (Yg.append HZ.out (brf.alloc nr _) hI hG);have r0:=HN.out.rcell0;have r1:=HN.out.rcell1
   have f0:=HN.out.rfree 0;have f1:=HN.out.rfree 1;clear hG hI;go_wp2;obtain⟨c0,c1⟩:=Xi (XR (c:=.int .i64 0) (d:=.int .i64 0) HN.out.res);refine bodyPost_ret (v:=.tuple #[v4,.agg #[.int .i64 0,.int .i64 0],.int .i64 0]) (by simp[results,Tryz.results78,go_sem,c0,c1]) rfl ?_;rw[HR.out];exact⟨(HN.out.below.setCell nr _).setCell nr _,v4,rfl,(ownsRow_setCell_below (ownsRow_setCell_below HN.out.own (by show w.heap.size<w.heap.size+2;omega) _) (by show w.heap.size<w.heap.size+2;omega) _).2.elim (λh=>⟨HN.out.own.1,Or.inl h⟩) (λ⟨g,cap,cur,hv,hg,r⟩=>⟨HN.out.own.1,Or.inr ⟨g,cap,cur,hv,by omega,r⟩⟩)⟩
  ·have hn:=Xde h0;have pS:=Xgt h0;have HL:=Xa (show 0<(bs S).length by rw[XO];exact h0);have HK:=Xa (Xrh h0);have hL:=Xa λ(n:Nat)=>Xvh S n;have hW:=Xa λ(n:Nat)=>Xvg S n;rcases Xgf (YX (S[0].toNat:Int)) with hl|hl
   ·rcases Xgf (QK (S[0].toNat:Int)) with hd|hd
    ·cases hJ:((S[0].toNat:Int)==32)
     ·cases h9:((S[0].toNat:Int)==9)
      ·cases hM:((S[0].toNat:Int)==10)
       ·cases hN:((S[0].toNat:Int)==35)
        ·have hO:Hid (Zv (bs S)=if Z9 (bs S)=0 then .bad else .tok 3 (Z9 (bs S))):=Xa (by rw[HK.out,hJ,h9,hM,hN,hl,hd];rfl);have KL:=Xa (hl▸Xa8 (S[0].toNat:Int) wr);have KD:=Xa λy:Xb wr.heap.size wr=>Xc.after (x:=y) nr (hd▸QB (S[0].toNat:Int) y.val);have hU:Z9 (bs S)<=S.size:=by
          obtain⟨l,hP⟩:=Xge h0;have:=Xkk (c:=S[0]) (l:=l);rw[<-hP,XO] at this;exact this
         have hQ:=Xa λy:Xb wr.heap.size wr=>Xc.after (x:=y) nr (Xok S h0 y.val);clear hl hd HK;generalize Z9 (bs S)=n at*;by_cases pE:n=0
         ·subst pE;have HR:=Xa (hf.out.bad HL.out (by rw[hO.out,if_pos rfl]));go_wp2_with fail;refine(Xc.first KL.out).mono ?_;rintro e w1 ⟨rfl,y1,rfl⟩;go_wp2_with fail;refine(KD.out y1).mono ?_;rintro e w1 ⟨rfl,y2,rfl⟩;go_wp2_with fail;refine(hQ.out y2).mono ?_;rintro e w1 ⟨rfl,y3,rfl⟩;have HZ:=Xa (hH.out y3);have r0:=λz:Xb y3.val.heap.size y3.val=>(HZ.out.after z).rcell0;have r1:=λz:Xb y3.val.heap.size y3.val=>(HZ.out.after z).rcell1;have f0:=λz:Xb y3.val.heap.size y3.val=>(HZ.out.after z).rfree 0;have f1:=λz:Xb y3.val.heap.size y3.val=>(HZ.out.after z).rfree 1
          have q0:=λz:Xb y3.val.heap.size y3.val=>(HZ.out.after z).cell0;have q1:=λz:Xb y3.val.heap.size y3.val=>(HZ.out.after z).cell1;go_wp2;refine XH y3.val.heap.size 2 (by kernel_rfl) (by kernel_rfl) ?_;simp only[List.take_succ_cons,List.take_zero,List.drop_succ_cons,List.drop_zero]
          repeat (go_big_quiet_step (fail))
          refine wpQuiet_nil ?_;intro z;go_wp2;obtain⟨c0,c1⟩:=Xi (XR (c:=.int .i64 line) (d:=.int .i64 col) (HZ.out.after z).res);refine bodyPost_ret (v:=.tuple #[.slice none 0 0,.agg #[.int .i64 line,.int .i64 col],.int .i64 7]) (by simp[results,Tryz.results78,go_sem,c0,c1]) rfl ?_;rw[HR.out];exact⟨((HZ.out.after z).below.setCell nr _).setCell nr _,rfl⟩
         ·have HT:=Xa (hf.out.tok HL.out (by rw[hO.out,if_neg pE]) (by omega));rw[<-hL.out,<-hW.out] at HT;go_wp2_with fail;refine(Xc.first KL.out).mono ?_;rintro e w1 ⟨rfl,y1,rfl⟩;go_wp2_with fail;refine(KD.out y1).mono ?_;rintro e w1 ⟨rfl,y2,rfl⟩;go_wp2_with fail;refine(hQ.out y2).mono ?_;rintro e w1 ⟨rfl,y3,rfl⟩;go_wp2;have HZ:=Xa (hH.out y3);go_region_law ((refine step_append_lies _ (by rfl) (.tmp 69) (.tmp 76) 94 (by rfl) (w.heap.size+2) 174 i8 (.agg #[.int .i64 0,.string ⟨#[]⟩,.int .i64 0,.int .i64 0]) 4 40 Tryz.underlying94 HI.out.1 HI.out.2.1 HI.out.2.2.1 HI.out.2.2.2 rfl (by omega) u5 acc.length (YF acc) (by go_simp) (HZ.out.own.alloc _) ⟨y3.val.heap.size,0,none⟩ 1 1 (Xh.cells ⟨3,S.extract 0 n,line,col⟩) (by go_simp) rfl (World.news_of_block (heap_alloc_new y3.val _)) (λu hu=>by simp[Xh.cells] at hu;rcases hu with rfl|rfl|rfl|rfl<;>rfl) (by omega) (by unfold maxLen;omega) (by omega) (by have:=HZ.out.size;simp;omega) (y3.val.heap.size+1) (by simp) ?_;intro g cap4 w4 hD hG hg hT))
          have HN:=Xa (Yg.append HZ.out ((brf.alloc nr _).drew) hD hG);have c61:=HN.out.cell1;have f61:=HN.out.free 1;have hC:=Xa (Xbh S n);clear hG hg hD;go_simp;go_wp2;exact⟨⟨S.extract n S.size,_,line,col+n,rfl,HT,by rw[hC.out,List.length_append,List.length_singleton];omega,hK,by rw[hC.out];omega,by omega,by rw[hC.out];omega,Xa (Yg.setCol HN.out _)⟩,by have:=hC.out;simp[hC.out];omega⟩
        ·skip
         have pO:=Xsa (bs S);rw[XO] at pO;have hR:=Xmr (bs S);rw[XO] at hR;obtain⟨ix,hX⟩:∃ix:Int,ix=Lib.indexByte (bs S) 10:=⟨_,rfl⟩
         rw[<-hX] at hR;have KX:=Xa (by have:=Xc.first (Xew S 10 wr);rw[<-Yk,show(10:Int).toNat.toUInt8=10 from rfl,<-hX] at this;exact this);have pP:1<=Q7 (bs S):=by
          obtain⟨l,hP⟩:=Xge h0;have:S[0]=35:=(Xce S[0] 35 (by decide)).2 hN;rw[hP,this];simp[Q7]
         have HT:=Xa (hf.out.blank HL.out (by rw[HK.out,hJ,h9,hM,hN];rfl) pP);rw[<-hL.out] at HT;clear hl hd HK hX;generalize Q7 (bs S)=n at*;by_cases hV:n<S.size
         ·rw[if_pos hV] at hR;subst hR;go_wp2_with fail;refine KX.out.mono ?_;rintro e w1 ⟨rfl,y1,rfl⟩;have hC:=Xa (Xbh S n);have HZ:=Xa (hH.out y1);go_wp2;exact⟨⟨S.extract n S.size,acc,line,col+n,rfl,HT,by rw[hC.out];omega,hK,by rw[hC.out];omega,by omega,by rw[hC.out];omega,Xa (Yg.setCol HZ.out _)⟩,by have:=hC.out;simp[hC.out];omega⟩
         ·rw[if_neg hV] at hR;obtain rfl:n=S.size:=by omega
          subst hR;go_wp2_with fail;refine KX.out.mono ?_;rintro e w1 ⟨rfl,y1,rfl⟩;have hE:S.extract S.size S.size=ByteArray.empty:=by simp
          rw[hE] at HT;clear hE;have HZ:=Xa (hH.out y1);go_wp2;exact⟨⟨ByteArray.empty,acc,line,col+S.size,rfl,HT,by simp;omega,hK,by simp;omega,by omega,by simp;omega,Xa (Yg.setCol HZ.out _)⟩,by simpa using h0⟩
       ·skip
        have HT:=Xa (hf.out.lineEnd HL.out (by rw[HK.out,hJ,h9,hM];rfl));rw[<-hL.out] at HT;have hC:=Xa (Xbh S 1);have YR:wr=(Xb.refl wr.heap.size wr).val:=rfl;have HZ:=Xa (hH.out (Xb.refl wr.heap.size wr));clear hl hd;go_wp2_with (at_builtin;refine Hid.out ?_)
        refine Lib.hid ?_;refine wpList_append_own _ rfl _ _ 94 rfl (w.heap.size+2) 174 i8 _ 4 40 Tryz.underlying94 HI.out.1 HI.out.2.1 HI.out.2.2.1 HI.out.2.2.2 rfl (by decide) _ _ _ rfl (HZ.out.own.alloc _) ⟨wr.heap.size,0,none⟩ 1 1 (Xh.cells ⟨4,⟨#[]⟩,line,col⟩) rfl rfl (World.news_of_block (heap_alloc_new wr _)) (λu hu=>by simp[Xh.cells] at hu;rcases hu with rfl|rfl|rfl|rfl<;>rfl) (by unfold maxLen;omega) (by omega) (by have:=HZ.out.size;simp;omega) ?_;intro v4 w4 hI hG _;have HN:=Xa (Yg.append HZ.out (brf.alloc nr _) hI hG);have q0:=λz:Xb w4.heap.size w4=>(HN.out.after z).cell0
        have q1:=λz:Xb w4.heap.size w4=>(HN.out.after z).cell1;have f0:=λz:Xb w4.heap.size w4=>(HN.out.after z).free 0;have f1:=λz:Xb w4.heap.size w4=>(HN.out.after z).free 1;clear hG hI;go_wp2;refine XH w4.heap.size 7 (by kernel_rfl) (by kernel_rfl) ?_;simp only[List.take_succ_cons,List.take_zero,List.drop_succ_cons,List.drop_zero]
        repeat (go_big_quiet_step (fail))
        refine wpQuiet_nil ?_;intro z;go_wp2;exact⟨⟨S.extract 1 S.size,_,line+1,1,rfl,HT,by rw[hC.out,List.length_append,List.length_singleton];omega,by omega,by rw[hC.out];omega,by omega,by rw[hC.out];omega,Xa (Yg.setPos (HN.out.after z) _ _)⟩,by have:=hC.out;simp[hC.out];omega⟩
      ·clear hl hd;have HT:=Xa (hf.out.blank (n:=1) HL.out (by rw[HK.out,hJ,h9];rfl) nr);rw[<-hL.out] at HT;have YR:wr=(Xb.refl wr.heap.size wr).val:=rfl;have hC:=Xa (Xbh S 1);have HZ:=Xa (hH.out (Xb.refl wr.heap.size wr));go_wp2;exact⟨⟨S.extract 1 S.size,acc,line,col+1,rfl,HT,by rw[hC.out];omega,hK,by rw[hC.out];omega,by omega,by rw[hC.out];omega,Xa (Yg.setCol HZ.out _)⟩,by have:=hC.out;simp[hC.out];omega⟩
     ·clear hl hd;cases h9:((S[0].toNat:Int)==9)
      all_goals
       have HT:=Xa (hf.out.blank (n:=1) HL.out (by rw[HK.out,hJ];rfl) nr);rw[<-hL.out] at HT;have YR:wr=(Xb.refl wr.heap.size wr).val:=rfl;have hC:=Xa (Xbh S 1);have HZ:=Xa (hH.out (Xb.refl wr.heap.size wr));go_wp2;exact⟨⟨S.extract 1 S.size,acc,line,col+1,rfl,HT,by rw[hC.out];omega,hK,by rw[hC.out];omega,by omega,by rw[hC.out];omega,Xa (Yg.setCol HZ.out _)⟩,by have:=hC.out;simp[hC.out];omega⟩
    ·have hb:=Xmm hd;have hJ:((S[0].toNat:Int)==32)=false:=by rw[beq_eq_false_iff_ne];omega
     have h9:((S[0].toNat:Int)==9)=false:=by rw[beq_eq_false_iff_ne];omega
     have hM:((S[0].toNat:Int)==10)=false:=by rw[beq_eq_false_iff_ne];omega
     have hN:((S[0].toNat:Int)==35)=false:=by rw[beq_eq_false_iff_ne];omega
     have hO:Hid (Zv (bs S)=.tok 2 (Qd (bs S))):=Xa (by rw[HK.out,hJ,h9,hM,hN,hl,hd];rfl);have KL:=Xa (hl▸Xa8 (S[0].toNat:Int) wr);have KD:=Xa λy:Xb wr.heap.size wr=>Xc.after (x:=y) nr (hd▸QB (S[0].toNat:Int) y.val);have hU:1<=Qd (bs S)/\Qd (bs S)<=S.size:=by
      obtain⟨l,hP⟩:=Xge h0;refine⟨by rw[hP];exact XiF hd,by have:=XkG (bs S);rw[XO] at this;exact this⟩
     have hQ:=Xa λy:Xb wr.heap.size wr=>Xc.after (x:=y) nr (Xm9 S y.val (by omega));clear hl hb hd HK;generalize Qd (bs S)=n at*;obtain⟨hY,hV⟩:=hU;have HT:=Xa (hf.out.tok HL.out hO.out hY);rw[<-hL.out,<-hW.out] at HT;go_wp2_with fail;refine(Xc.first KL.out).mono ?_;rintro e w1 ⟨rfl,y1,rfl⟩;go_wp2_with fail;refine(KD.out y1).mono ?_;rintro e w1 ⟨rfl,y2,rfl⟩;go_wp2_with fail;refine(hQ.out y2).mono ?_;rintro e w1 ⟨rfl,y3,rfl⟩;go_wp2;have HZ:=Xa (hH.out y3);go_region_law ((refine step_append_lies _ (by rfl) (.tmp 69) (.tmp 76) 94 (by rfl) (w.heap.size+2) 174 i8 (.agg #[.int .i64 0,.string ⟨#[]⟩,.int .i64 0,.int .i64 0]) 4 40 Tryz.underlying94 HI.out.1 HI.out.2.1 HI.out.2.2.1 HI.out.2.2.2 rfl (by omega) u5 acc.length (YF acc) (by go_simp) (HZ.out.own.alloc _) ⟨y3.val.heap.size,0,none⟩ 1 1 (Xh.cells ⟨2,S.extract 0 n,line,col⟩) (by go_simp) rfl (World.news_of_block (heap_alloc_new y3.val _)) (λu hu=>by simp[Xh.cells] at hu;rcases hu with rfl|rfl|rfl|rfl<;>rfl) (by omega) (by unfold maxLen;omega) (by omega) (by have:=HZ.out.size;simp;omega) (y3.val.heap.size+1) (by simp) ?_;intro g cap4 w4 hD hG hg hT))
     have HN:=Xa (Yg.append HZ.out ((brf.alloc nr _).drew) hD hG);have c61:=HN.out.cell1;have f61:=HN.out.free 1;have hC:=Xa (Xbh S n);clear hG hg hD;go_simp;go_wp2;exact⟨⟨S.extract n S.size,_,line,col+n,rfl,HT,by rw[hC.out,List.length_append,List.length_singleton];omega,hK,by rw[hC.out];omega,by omega,by rw[hC.out];omega,Xa (Yg.setCol HN.out _)⟩,by have:=hC.out;simp[hC.out];omega⟩
   ·have hb:=XjJ hl;have hJ:((S[0].toNat:Int)==32)=false:=by rw[beq_eq_false_iff_ne];omega
    have h9:((S[0].toNat:Int)==9)=false:=by rw[beq_eq_false_iff_ne];omega
    have hM:((S[0].toNat:Int)==10)=false:=by rw[beq_eq_false_iff_ne];omega
    have hN:((S[0].toNat:Int)==35)=false:=by rw[beq_eq_false_iff_ne];omega
    have hO:Hid (Zv (bs S)=if X6 (bs S)<=20 then .tok 1 (X6 (bs S)) else .bad):=Xa (by rw[HK.out,hJ,h9,hM,hN,hl];rfl);have KL:=Xa (hl▸Xa8 (S[0].toNat:Int) wr);have hU:1<=X6 (bs S)/\X6 (bs S)<=S.size:=by
     obtain⟨l,hP⟩:=Xge h0;refine⟨by rw[hP];exact XgZ hl,by have:=Xh5 (bs S);rw[XO] at this;exact this⟩
    have hQ:=Xa λy:Xb wr.heap.size wr=>Xc.after (x:=y) nr (XmB S y.val (by unfold maxLen;omega));clear hl hb HK;generalize X6 (bs S)=n at*;obtain⟨hY,hV⟩:=hU;by_cases pF:n<=20
    ·have HT:=Xa (hf.out.tok HL.out (by rw[hO.out,if_pos pF]) hY);rw[<-hL.out,<-hW.out] at HT;go_wp2_with fail;refine(Xc.first KL.out).mono ?_;rintro e w1 ⟨rfl,y1,rfl⟩;go_wp2_with fail;refine(hQ.out y1).mono ?_;rintro e w1 ⟨rfl,y2,rfl⟩;go_wp2;have HZ:=Xa (hH.out y2);go_region_law ((refine step_append_lies _ (by rfl) (.tmp 69) (.tmp 76) 94 (by rfl) (w.heap.size+2) 174 i8 (.agg #[.int .i64 0,.string ⟨#[]⟩,.int .i64 0,.int .i64 0]) 4 40 Tryz.underlying94 HI.out.1 HI.out.2.1 HI.out.2.2.1 HI.out.2.2.2 rfl (by omega) u5 acc.length (YF acc) (by go_simp) (HZ.out.own.alloc _) ⟨y2.val.heap.size,0,none⟩ 1 1 (Xh.cells ⟨1,S.extract 0 n,line,col⟩) (by go_simp) rfl (World.news_of_block (heap_alloc_new y2.val _)) (λu hu=>by simp[Xh.cells] at hu;rcases hu with rfl|rfl|rfl|rfl<;>rfl) (by omega) (by unfold maxLen;omega) (by omega) (by have:=HZ.out.size;simp;omega) (y2.val.heap.size+1) (by simp) ?_;intro g cap4 w4 hD hG hg hT))
     have HN:=Xa (Yg.append HZ.out ((brf.alloc nr _).drew) hD hG);have c61:=HN.out.cell1;have f61:=HN.out.free 1;have hC:=Xa (Xbh S n);clear hG hg hD;go_simp;go_wp2;exact⟨⟨S.extract n S.size,_,line,col+n,rfl,HT,by rw[hC.out,List.length_append,List.length_singleton];omega,hK,by rw[hC.out];omega,by omega,by rw[hC.out];omega,Xa (Yg.setCol HN.out _)⟩,by have:=hC.out;simp[hC.out];omega⟩
    ·have HR:=Xa (hf.out.bad HL.out (by rw[hO.out,if_neg pF]));go_wp2_with fail;refine(Xc.first KL.out).mono ?_;rintro e w1 ⟨rfl,y1,rfl⟩;go_wp2_with fail;refine(hQ.out y1).mono ?_;rintro e w1 ⟨rfl,y2,rfl⟩;have HZ:=Xa (hH.out y2);have r0:=λz:Xb y2.val.heap.size y2.val=>(HZ.out.after z).rcell0;have r1:=λz:Xb y2.val.heap.size y2.val=>(HZ.out.after z).rcell1;have f0:=λz:Xb y2.val.heap.size y2.val=>(HZ.out.after z).rfree 0;have f1:=λz:Xb y2.val.heap.size y2.val=>(HZ.out.after z).rfree 1;have q0:=λz:Xb y2.val.heap.size y2.val=>(HZ.out.after z).cell0;have q1:=λz:Xb y2.val.heap.size y2.val=>(HZ.out.after z).cell1
     go_wp2;refine XH y2.val.heap.size 2 (by kernel_rfl) (by kernel_rfl) ?_;simp only[List.take_succ_cons,List.take_zero,List.drop_succ_cons,List.drop_zero]
     repeat (go_big_quiet_step (fail))
     refine wpQuiet_nil ?_;intro z;go_wp2;obtain⟨c0,c1⟩:=Xi (XR (c:=.int .i64 line) (d:=.int .i64 col) (HZ.out.after z).res);refine bodyPost_ret (v:=.tuple #[.slice none 0 0,.agg #[.int .i64 line,.int .i64 col],.int .i64 7]) (by simp[results,Tryz.results78,go_sem,c0,c1]) rfl ?_;rw[HR.out];exact⟨((HZ.out.after z).below.setCell nr _).setCell nr _,rfl⟩
end Go.Proofs.YtdcahhbipeaggaaGreatDoor
