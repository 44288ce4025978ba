/- Lemmas for TopPrinted: Names, Own, QuietTail, MoveTail. -/
import Derived.Test.YtdcahhbipeaggaaGreatDoorProg
import Derived.Test.YtdcahhbipeaggaaGreatDoorData
import Derived.Deep.AppendLies
import Derived.Lib.SmallJoins
import Derived.StillTail
import Derived.Orders
set_option maxRecDepth 100000
set_option maxHeartbeats 16000000
namespace Go.Proofs.YtdcahhbipeaggaaGreatDoor
open Go.RowKit
def YX(c:Int):Bool:=(decide (97<=c)&&decide (c<=122))||(decide (65<=c)&&decide (c<=90))
def QK(c:Int):Bool:=decide (48<=c)&&decide (c<=57)
def JR(c:UInt8):Bool:=YX (c.toNat:Int)||QK (c.toNat:Int)||decide ((c.toNat:Int)=95)
def X6:List UInt8->Nat
 |[]=>0
 |c::l=>if JR c then X6 l+1 else 0
def Yw(l:List UInt8):Bool:= !l.isEmpty&&decide (l.length<=20)&&YX ((l.headD 0).toNat:Int)&&decide (X6 l=l.length)
def XF(s:ByteArray):Bool:=Yw (bs s)
theorem Xh5(l:List UInt8):X6 l<=l.length:=by
 induction l with
 |nil=>simp[X6]
 |cons c l ih=>unfold X6;split<;>simp<;>omega
theorem Xfj:∀(l:List UInt8) (k:Nat),(∀j,j<k->∃c,l[j]? =some c/\JR c=true)->(∀c,l[k]? =some c->JR c=false)->k<=l.length->X6 l=k
 |[],k,_,_,hk=>by simp[X6] at*;omega
 |c::l,0,_,h,_=>by simp[X6,h c rfl]
 |c::l,k+1,h,h',hk=>by
  obtain⟨c',hC,hw⟩:=h 0 (by omega);simp at hC;subst hC;simp only[X6,hw,if_true];rw[Xfj l k (λj hj=>by simpa using h (j+1) (by omega)) (λc hc=>h' c (by simpa using hc)) (by simpa using hk)]
def XcT(l:List UInt8)(i k:Nat):Prop:=∀j,i<=j->j<k->∃c,l[j]? =some c/\JR c=true
theorem XcT.start(l:List UInt8)(i:Nat):XcT l i i:=λj h1 h2=>by omega
theorem XcT.next{s:ByteArray}{i k:Nat}(h:XcT (bs s) i k)(hk:k<s.size)(hw:JR s[k]=true):XcT (bs s) i (k+1):=λj h1 h2=>by
 by_cases e:j=k
 ·subst e;exact⟨_,XcQ s j hk,hw⟩
 ·exact h j h1 (by omega)
theorem XcT.len{l:List UInt8}{i k:Nat}(h:XcT l i k)(hi:i<=k)(hk:k<=l.length)(hn:∀c,l[k]? =some c->JR c=false):i+X6 (l.drop i)=k:=by
 rw[Xfj (l.drop i) (k-i) (λj hj=>by simpa using h (i+j) (by omega) (by omega)) (λc hc=>hn c (by rw[List.getElem?_drop] at hc;rw[<-hc];congr 1;omega)) (by simp;omega)];omega
theorem Xhy{c:UInt8}(h:YX (c.toNat:Int)=true):JR c=true:=by simp[JR,h]
theorem Xh6{c:UInt8}(h:QK (c.toNat:Int)=true):JR c=true:=by simp[JR,h]
theorem XmC{c:UInt8}(h:((c.toNat:Int)==95)=true):JR c=true:=by simp only[beq_iff_eq] at h;simp[JR,h]
theorem Xrf{c:UInt8}(h1:¬YX (c.toNat:Int)=true)(h2:¬QK (c.toNat:Int)=true)(h3:((c.toNat:Int)==95)=false):JR c=false:=by
 simp only[beq_eq_false_iff_ne] at h3;simp[JR,h1,h2,h3]
section letters
theorem Xa8(c:Int)(w:World):Calls Tryz.prog 108 #[.int .u8 c] w (Xc w (.bool (YX c))):=by
 go_enter Tryz.func108,Tryz.ntmps108;go_wp2
 all_goals
  go_ret;exact Xc.mk (congrArg Value.bool (by rw[Bool.eq_iff_iff];simp[YX];omega)) brf
theorem QB(c:Int)(w:World):Calls Tryz.prog 128 #[.int .u8 c] w (Xc w (.bool (QK c))):=by
 go_enter Tryz.func128,Tryz.ntmps128;go_wp2
 all_goals
  go_ret;exact Xc.mk (congrArg Value.bool (by rw[Bool.eq_iff_iff];simp[QK];try omega)) brf
end letters
section words
theorem XmB(s:ByteArray)(w:World)(hs:s.size<=maxLen):Calls Tryz.prog 109 #[.string s] w (Xc w (.int .i64 (X6 (bs s)))):=by
 unfold maxLen at hs;go_enter Tryz.func109,Tryz.ntmps109;go_wp2;go_loopw [3] (λv wr=>∃k:Nat,v=.int .i64 k/\0<=k/\k<=s.size/\XcT (bs s) 0 k/\∃x:Xb w.heap.size w,wr=x.val) (λv _=>s.size-(intOf v).toNat)
 case atStart=>exact⟨0,rfl,Nat.le_refl _,by omega,XcT.start _ _,Xb.refl _ _,rfl⟩
 case round=>
  obtain⟨k,rfl,hG,hk,hD,x,rfl⟩:=hrel;have hC:=Xa hD;clear hD;by_cases hE:k<s.size
  ·go_wp2_with (first|(go_at_call 108;refine(Xc.after nr (Xa8 _ _)).mono ?_;rintro e w' ⟨rfl,x,rfl⟩)|(go_at_call 128;refine(Xc.after nr (QB _ _)).mono ?_;rintro e w' ⟨rfl,x,rfl⟩))
   ·exact⟨⟨k+1,by go_num,by omega,by omega,hC.out.next hE (Xhy ‹_›),_,rfl⟩,by simp[intOf];omega⟩
   ·exact⟨⟨k+1,by go_num,by omega,by omega,hC.out.next hE (Xh6 ‹_›),_,rfl⟩,by simp[intOf];omega⟩
   ·exact⟨⟨k+1,by go_num,by omega,by omega,hC.out.next hE (XmC ‹_›),_,rfl⟩,by simp[intOf];omega⟩
   ·go_ret;have hw:=Xrf (c:=s[k]) ‹_› ‹_› ‹_›;have hr:=hC.out.len hG (by rw[XO];omega) (λc hc=>by rw[XcQ s k hE] at hc;injection hc with hc;rw[<-hc];exact hw);exact Xc.mk (congrArg (Value.int IntKind.i64) (by(try simp only[List.drop_zero] at hr);omega)) x.below
  ·go_wp2;go_ret;have hr:=hC.out.len hG (by rw[XO];omega) (λc hc=>by have hq:=(lgS hc).1;rw[XO] at hq;omega);exact Xc.mk (congrArg (Value.int IntKind.i64) (by(try simp only[List.drop_zero] at hr);omega)) x.below
end words
section names
theorem XlZ(s:ByteArray)(h:s.size=0):XF s=false:=by
 have:bs s=[]:=List.eq_nil_of_length_eq_zero (by rw[XO];exact h);simp[XF,Yw,this]
theorem XgA(s:ByteArray)(h:0<s.size):XF s=(decide (s.size<=20)&&YX (s[0].toNat:Int)&&decide (X6 (bs s)=s.size)):=by
 have h0:=XcQ s 0 h;have hl:=XO s;unfold XF Yw;cases hb:bs s with
 |nil=>rw[hb] at hl;simp at hl;omega
 |cons c l=>
  rw[hb] at h0 hl;simp only[List.getElem?_cons_zero,Option.some.injEq] at h0;subst h0;simp[<-hl]
theorem Xpp{s:ByteArray}{b:Bool}(h:0<s.size)(h1:(s.size:Int)<=20)(h2:YX (s[0].toNat:Int)=true)(hb:b=((X6 (bs s):Int)==(s.size:Int))):b=XF s:=by
 rw[XgA s h,h2,decide_eq_true (show s.size<=20 by omega),hb,Bool.eq_iff_iff];simp only[beq_iff_eq,Bool.and_self,Bool.true_and,decide_eq_true_eq];omega
theorem Xhe{s:ByteArray}(h:20<(s.size:Int)):XF s=false:=by
 rw[XgA s (by omega),decide_eq_false (by omega)];rfl
theorem XrF{s:ByteArray}(h:0<s.size)(h2:¬YX (s[0].toNat:Int)=true):XF s=false:=by
 rw[XgA s h];simp[h2]
theorem XK(s:ByteArray)(w:World)(hs:s.size<=maxLen):Calls Tryz.prog 61 #[.string s] w (Xc w (.bool (XF s))):=by
 have hC:=hs;unfold maxLen at hs;rcases Nat.eq_zero_or_pos s.size with h0|h0
 ·have HE:=Xa (XlZ s h0);have hn:s.toList=[]:=Xie h0;go_enter Tryz.func61,Tryz.ntmps61;go_wp2;go_ret;exact Xc.mk (congrArg Value.bool HE.out.symm) brf
 ·have hn:=Xde h0;have hD:=Xgt h0;go_enter Tryz.func61,Tryz.ntmps61;go_wp2_with (first|(go_at_call 108;refine(Xc.first (Xa8 _ _)).mono ?_;rintro e w' ⟨rfl,x,rfl⟩)|(go_at_call 109;refine(Xc.after nr (XmB _ _ hC)).mono ?_;rintro e w' ⟨rfl,x,rfl⟩))
  ·go_ret;exact Xc.mk (congrArg Value.bool (Xpp h0 ‹_› ‹_› (by simp))) (Xb.below _)
  ·go_ret;exact Xc.mk (congrArg Value.bool (XrF h0 ‹_›).symm) (Xb.below _)
  ·go_ret;exact Xc.mk (congrArg Value.bool (Xhe ‹_›).symm) brf
end names
end Go.Proofs.YtdcahhbipeaggaaGreatDoor
namespace Go.Proofs.YtdcahhbipeaggaaGreatDoor
open Go.RowKit
section
variable {w w':World} {base:Nat} {e:TypeId} {size:Nat} {v:Value} {n:Nat} {xs:List Value}
theorem J1(h:w.ownsRow base e size v n xs)(hb:Below w.heap.size w w'):w'.ownsRow base e size v n xs:=by
 refine⟨h.1,?_⟩;rcases h.2 with h2|⟨g,cap,cur,hv,hg,hh,r⟩
 ·exact Or.inl h2
 ·have hC:g<w.heap.size:=(agS hh).1;exact Or.inr ⟨g,cap,cur,hv,hg,(hb.block g hC).trans hh,r⟩
theorem XaP(h:w.ownsRow base e size v n xs)(hb:∀g,v.ownBlock=some g->w'.heap[g]? =w.heap[g]?):w'.ownsRow base e size v n xs:=by
 refine⟨h.1,?_⟩;rcases h.2 with h2|⟨g,cap,cur,hv,hg,hh,r⟩
 ·exact Or.inl h2
 ·exact Or.inr ⟨g,cap,cur,hv,hg,(hb g (by rw[hv];rfl)).trans hh,r⟩
theorem Xb2(h:w.ownsRow base e size v n xs):∀k,v.ownBlock=some k->base<=k:=by
 intro k hk;rcases h.2 with ⟨rfl,_⟩|⟨g,cap,cur,rfl,hg,_⟩
 ·simp[Value.ownBlock] at hk
 ·simp[Value.ownBlock] at hk;omega
theorem XfH(w:World)(base:Nat)(e:TypeId)(size:Nat):w.ownsRow base e size (.slice none 0 0) 0 []:=⟨by simp,Or.inl ⟨rfl,rfl⟩⟩
end
theorem Xe{w:World}{g:Nat}{cs:Array Value}{t:TypeId}(h:w.heap[g]? =some (.cells cs t (0,0)))(i:Nat):w.frozen? ⟨g,i,none⟩=false:=by simp[World.frozen?,h]
theorem Xx{w:World}{g i:Nat}{cs:Array Value}{t:TypeId}{fr:Nat×Nat}(h:w.heap[g]? =some (.cells cs t fr))(v:Value):(w.setCell ⟨g,i,none⟩ v).heap[g]? =some (.cells (cs.setIfInBounds i v) t fr):=Joins.block_setCell h v
theorem XR{z:World}{g:Nat}{a b c d:Value}{t:TypeId}{fr:Nat×Nat}(h:z.heap[g]? =some (.cells #[a,b] t fr)):((z.setCell ⟨g,0,none⟩ c).setCell ⟨g,1,none⟩ d).heap[g]? =some (.cells #[c,d] t fr):=by rw[Xx (Xx h c) d];rfl
theorem Xi{z:World}{g:Nat}{a b:Value}{t:TypeId}{fr:Nat×Nat}(h:z.heap[g]? =some (.cells #[a,b] t fr)):z.cell? ⟨g,0,none⟩=some a/\z.cell? ⟨g,1,none⟩=some b:=⟨(Joins.cell_of_block h 0).trans rfl,(Joins.cell_of_block h 1).trans rfl⟩
end Go.Proofs.YtdcahhbipeaggaaGreatDoor
namespace Go.Proofs.YtdcahhbipeaggaaGreatDoor
open Go.RowKit
section
variable {P:Program} {ops:Array Oper} {md:Region.Mode} {C:World->Prop}
def Xhh(P:Program)(md:Region.Mode)(ops:Array Oper)(C:World->Prop)(n:Nat)(L:Array Bool->Act->Prop):Nat->Array Bool->Act->Prop
 |0,listed,a=>L listed a
 |f+1,listed,a=>Region.ready md ops listed≠[]/\∀i∈Region.ready md ops listed,i<n/\qOp P ops C i (Xhh P md ops C n L f (listed.setIfInBounds i true)) a
theorem XaN{n g:Nat}{L:Array Bool->Act->Prop}{Q':Exit->Act->World->Prop}(hL:∀listed a w,C w->L listed a->wpAny P md ops Q' g listed a w):
 ∀(f:Nat) (listed:Array Bool) (a:Act) (w:World),C w->Xhh P md ops C n L f listed a->wpAny P md ops Q' (f+g) listed a w
 |0,_,_,_,hw,h=>by rw[Nat.zero_add];exact hL _ _ _ hw h
 |f+1,_,_,_,hw,h=>by
  rw[show f+1+g=(f+g)+1 by omega];exact⟨λh0=>absurd h0 h.1,λi hi=>wpOp_of_qOp hw (λa' w' hC h'=>XaN hL f _ a' w' hC h') (h.2 i hi).2⟩
theorem Xhg{n i:Nat}{oi:Oper}{v:Value}{L:Array Bool->Act->Prop}(hi:ops[i]? =some oi)(hE:∀(j:Nat) (o:Oper) cs b,ops[j]? =some o->o.op≠ .select cs b)
 (hs:Region.sinkB md ops n=true) (hc:Region.chainB md ops n=true) (hn:n<ops.size) (hL:i<n) (hC:∀listed a,L listed a->∀j∈Region.ready md ops listed,n<=j):
 ∀(f:Nat) (listed:Array Bool) (a:Act),HeadInv md ops n listed->
  (∀j oj,ops[j]? =some oj->j≠i->listed.getD j true=false->(∀e∈oj.after,Region.binds md e=true->e.on≠i)->oi.apart ops oj=true)->
  i∈Region.ready md ops listed->YieldsIn P ops C oi v a->
  Xhh P md ops C n L f (listed.setIfInBounds i true) (a.put oi.dst v)->Xhh P md ops C n L (f+1) listed a
 |f,listed,a,inv,hD,hr,hy,H=>by
  have hM:=(mem_ready.1 hr).1;refine⟨λh=>(by rw[h] at hr;cases hr),λj hj=> ?_⟩;have hN:j<n:=(Nat.lt_or_ge j n).elim id λh=>absurd hj (tail_waits hs hc hn inv _ i rfl hL hM j h);refine⟨hN,?_⟩;by_cases hG:j=i
  ·subst hG;exact hy.qOp hi H
  ·have hO:=ready_mono hj hG;cases f with
   |zero=>exact absurd (hC _ _ H j hO) (by omega)
   |succ f=>
    obtain⟨hH,oj,hI,hJ⟩:=mem_ready.1 hj;have hK:∀e∈oj.after,Region.binds md e=true->e.on≠i:=λe he hb heq=>by
     have h1:=hJ e he hb;rw[heq,getD_both hM] at h1;cases h1
    have h2:=qOp_put hI (hD j oj hI hG hH hK) (λcs b=>hE i oi cs b hi) (λcs b=>hE j oj cs b hI) hy (H.2 j hO).2
    refine qOp_mono (λa' h3=>Xhg hi hE hs hc hn hL hC f (listed.setIfInBounds j true) a' (inv.set hj hN) (λk ok hk hQ hu hR=>hD k ok hk hQ (by
     by_cases hP:j=k
     ·subst hP;exact hH
     ·rwa [getD_set_ne true hP] at hu) hR) (ready_mono hr (Ne.symm hG)) h3.1 ?_) h2
    rw[Array.setIfInBounds_comm _ _ hG];exact h3.2
theorem XgD{n g:Nat}{Lq:Act->Prop}(hC:Region.noSelect ops=true)(hs:Region.sinkB md ops n=true)(hc:Region.chainB md ops n=true)(hn:n<ops.size):
 ∀(l:List Oper) (k:Nat) (listed:Array Bool) (a:Act),(∀j,j<l.length->l[j]? =ops[k+j]?)->k+l.length=n->HeadInv md ops n listed->
 Region.lexHead md ops g l.length k listed=true->wpQuiet P ops C Lq l a->Xhh P md ops C n (λlisted' a'=>Region.seqB md ops g n listed'=true/\Lq a') l.length listed a
 |[],k,listed,a,_,hk,_,hB,h=>by
  have:k=n:=by simpa using hk
  subst this;exact⟨by simpa[Region.lexHead] using hB,h⟩
 |o::l,k,listed,a,hl,hk,inv,hB,h=>by
  have h0:ops[k]? =some o:=by simpa using(hl 0 (by simp)).symm
  simp only[List.length_cons,Region.lexHead,bae] at hB;obtain⟨⟨hr,hf⟩,hG⟩:=hB;have hD:k<n:=by simp only[List.length_cons] at hk;omega
  have hE:k∈Region.ready md ops listed:=by simpa using hr
  have hH:qOp P ops C k (wpQuiet P ops C Lq l) a:=by unfold qOp;simp only[h0];exact h
  obtain⟨v,hy,hK⟩:=yieldsIn_of_qOp h0 hH;exact Xhg h0 (Region.noSelect_spec hC) hs hc hn hD (λlisted' a' hL=>seqB_ready hL.1) l.length listed a inv (Region.free_spec h0 hf) hE hy
   (XgD hC hs hc hn l (k+1) _ _ (λj hj=>by have:=hl (j+1) (by simp;omega);simpa[Nat.add_assoc,Nat.add_comm 1 j] using this) (by simp only[List.length_cons] at hk;omega) (inv.set hE hD) hG hK)
theorem Xag{id:Nat}{Q:Exit->Act->World->Prop}{a:Act}{w:World}{l:List Oper}(n:Nat)(hm:P.follows .mixedOrders=true)(hB:Region.lexTailB .any l.toArray n=true)(hC:C {w with drawn:=w.drawn+1})
 (h:wpQuiet P l.toArray C (λa'=>∀w',C w'->wpList P l.toArray Q (l.drop n) a' w') (l.take n) a):(Code.region id l.toArray true).wp P Q a w:=by
 simp only[Region.lexTailB,bae,decide_eq_true_eq] at hB;obtain⟨⟨⟨⟨hE,hn⟩,hs⟩,hc⟩,hG⟩:=hB;have hK:n<l.length:=by simpa using hn
 have hD:(l.take n).length=n:=by simp;omega
 have hH:(l.drop n).length=l.toArray.size-n:=by simp
 have inv0:HeadInv .any l.toArray n (Array.replicate l.toArray.size false):=
  ⟨by simp,λj oj _ hl=>(by rw[getD_replicate_false] at hl;cases hl),λt _ ht=>getD_in (by simpa using ht) (getD_replicate_false _ _)⟩
 have H:=XgD (md:=.any) (g:=l.toArray.size-n) hE hs hc hn (l.take n) 0 _ a (λj hj=>by
  have hI:j<n:=by rw[hD] at hj;exact hj
  simp[hI]) (by simpa using hD) inv0 (by rw[hD];exact hG) h
 refine wp_region_any hm ?_
 have:=XaN (Q':=Q) (g:=l.toArray.size-n) (λlisted a' w' hJ hL=>by
  have:=wpAny_of_seq (md:=.any) (Q':=Q) (l.drop n) n listed a' w' (λj=>by simp[List.getElem?_drop]) (by rw[hH];exact hL.1) (hL.2 w' hJ)
  rwa [hH] at this) _ _ _ _ hC H
 rw[hD,show n+(l.toArray.size-n)=l.toArray.size by omega] at this;exact this
theorem XH{id:Nat}{Q:Exit->Act->World->Prop}{a:Act}(B:Nat){w:World}{l:List Oper}(n:Nat)(hm:P.follows .mixedOrders=true)(hB:Region.lexTailB .any l.toArray n=true)
 (h:wpQuiet P l.toArray (λw'=>∃x:Xb B w,w'=x.val) (λa'=>∀x:Xb B w,wpList P l.toArray Q (l.drop n) a' x.val) (l.take n) a):(Code.region id l.toArray true).wp P Q a w:=
 Xag (C:=λw'=>∃x:Xb B w,w'=x.val) n hm hB (Xb.exists_iff ⟨rfl,rfl,rfl,Nat.le_refl _,λ_ _=>rfl⟩) (by
  have e:(λa'=>∀w',(∃x:Xb B w,w'=x.val)->wpList P l.toArray Q (l.drop n) a' w')=(λa'=>∀x:Xb B w,wpList P l.toArray Q (l.drop n) a' x.val):=by
   funext a'
   exact propext ⟨λh x=>h _ ⟨x,rfl⟩,λh w' ⟨x,hx⟩=>hx▸h x⟩
  rw[e]
  exact h)
end
end Go.Proofs.YtdcahhbipeaggaaGreatDoor
namespace Go.Proofs.YtdcahhbipeaggaaGreatDoor
open Go.RowKit
section
variable {P:Program} {ops:Array Oper} {md:Region.Mode} {C:World->Prop}
def Xdf(md:Region.Mode)(ops:Array Oper)(m n:Nat):Bool:=
 (List.range n).all λi=>decide (i<m)||(List.range (n+1)).any λj=>decide (i<j)&&Region.waitsFor md ops j i
theorem Xls{m n i:Nat}(h:Xdf md ops m n=true)(hm:m<=i)(hi:i<n):∃j,i<j/\j<=n/\Region.waitsFor md ops j i=true:=by
 have h1:=List.all_eq_true.1 h i (List.mem_range.2 hi);simp only[Bool.or_eq_true,decide_eq_true_eq] at h1;rcases h1 with h1|h1
 ·omega
 ·obtain⟨j,hj,h2⟩:=List.any_eq_true.1 h1;simp only[bae,decide_eq_true_eq] at h2;exact⟨j,h2.1,by have:=List.mem_range.1 hj;omega,h2.2⟩
theorem Xof{m n:Nat}{listed:Array Bool}(hs:Xdf md ops m n=true)(hc:Region.chainB md ops n=true)(inv:HeadInv md ops n listed):
 ∀(d i:Nat),n-i=d->m<=i->i<n->listed.getD i true=false->∀t,n<=t->t∉Region.ready md ops listed:=by
 intro d;induction d using Nat.strongRecOn with
 |_ d ih=>
  intro i hd hm hi hJ t ht hr;obtain⟨hK,ot,hG,hC⟩:=mem_ready.1 hr;have hL:t<ops.size:=(agS hG).1;rcases Nat.lt_or_ge n t with h|h
  ·have h1:=List.all_eq_true.1 hc t (List.mem_range.2 hL);simp only[Bool.or_eq_true,decide_eq_true_eq] at h1;rcases h1 with h1|h1
   ·omega
   ·obtain⟨o',hD,e,he,hb,hE⟩:=Region.waitsFor_spec h1;obtain rfl:=Option.some.inj (hD.symm.trans hG);have h2:=hC e he hb;rw[hE] at h2;have h3:=inv.tail (t-1) (by omega) (by omega);have h4:=getD_both h3;rw[h2] at h4;exact absurd h4 (by simp)
  ·obtain rfl:t=n:=by omega
   obtain⟨j,hO,hP,hw⟩:=Xls hs hm hi;obtain⟨o',hD,e,he,hb,hE⟩:=Region.waitsFor_spec hw;have hH:=getD_both hJ;rcases Nat.lt_or_ge j t with hI|hI
   ·have hM:listed.getD j true=false:=by
     by_cases hl:listed.getD j false=true
     ·have:=inv.closed j o' hD hl e he hb;rw[hE,hH] at this;exact absurd this (by simp)
     ·have hN:j<listed.size:=by rw[inv.size];omega
      simp[hN] at hl ⊢;exact hl
    exact ih (t-j) (by omega) j rfl (by omega) hI hM t nr hr
   ·obtain rfl:j=t:=by omega
    obtain rfl:=Option.some.inj (hD.symm.trans hG);have h2:=hC e he hb;rw[hE,hH] at h2;exact absurd h2 (by simp)
theorem Xf2{m n i:Nat}{oi:Oper}{v:Value}{L:Array Bool->Act->Prop}(hi:ops[i]? =some oi)(hE:∀(j:Nat) (o:Oper) cs b,ops[j]? =some o->o.op≠ .select cs b)
 (hs:Xdf md ops m n=true) (hc:Region.chainB md ops n=true) (hL:m<=i) (hM:i<n) (hC:∀listed a,L listed a->∀j∈Region.ready md ops listed,n<=j):
 ∀(f:Nat) (listed:Array Bool) (a:Act),HeadInv md ops n listed->
  (∀j oj,ops[j]? =some oj->j≠i->listed.getD j true=false->(∀e∈oj.after,Region.binds md e=true->e.on≠i)->oi.apart ops oj=true)->
  i∈Region.ready md ops listed->YieldsIn P ops C oi v a->
  Xhh P md ops C n L f (listed.setIfInBounds i true) (a.put oi.dst v)->Xhh P md ops C n L (f+1) listed a
 |f,listed,a,inv,hD,hr,hy,H=>by
  have hN:=(mem_ready.1 hr).1;refine⟨λh=>(by rw[h] at hr;cases hr),λj hj=> ?_⟩;have hO:j<n:=(Nat.lt_or_ge j n).elim id λh=>absurd hj (Xof hs hc inv _ i rfl hL hM hN j h);refine⟨hO,?_⟩;by_cases hG:j=i
  ·subst hG;exact hy.qOp hi H
  ·have hP:=ready_mono hj hG;cases f with
   |zero=>exact absurd (hC _ _ H j hP) (by omega)
   |succ f=>
    obtain⟨hH,oj,hI,hJ⟩:=mem_ready.1 hj;have hK:∀e∈oj.after,Region.binds md e=true->e.on≠i:=λe he hb heq=>by
     have h1:=hJ e he hb;rw[heq,getD_both hN] at h1;cases h1
    have h2:=qOp_put hI (hD j oj hI hG hH hK) (λcs b=>hE i oi cs b hi) (λcs b=>hE j oj cs b hI) hy (H.2 j hP).2
    refine qOp_mono (λa' h3=>Xf2 hi hE hs hc hL hM hC f (listed.setIfInBounds j true) a' (inv.set hj hO) (λk ok hk hR hu hT=>hD k ok hk hR (by
     by_cases hQ:j=k
     ·subst hQ;exact hH
     ·rwa [getD_set_ne true hQ] at hu) hT) (ready_mono hr (Ne.symm hG)) h3.1 ?_) h2
    rw[Array.setIfInBounds_comm _ _ hG];exact h3.2
theorem XiX{m n g:Nat}{Lq:Act->Prop}(hC:Region.noSelect ops=true)(hs:Xdf md ops m n=true)(hc:Region.chainB md ops n=true):
 ∀(l:List Oper) (k:Nat) (listed:Array Bool) (a:Act),m<=k->(∀j,j<l.length->l[j]? =ops[k+j]?)->k+l.length=n->HeadInv md ops n listed->
 Region.lexHead md ops g l.length k listed=true->wpQuiet P ops C Lq l a->Xhh P md ops C n (λlisted' a'=>Region.seqB md ops g n listed'=true/\Lq a') l.length listed a
 |[],k,listed,a,_,_,hk,_,hB,h=>by
  have:k=n:=by simpa using hk
  subst this;exact⟨by simpa[Region.lexHead] using hB,h⟩
 |o::l,k,listed,a,hG,hl,hk,inv,hB,h=>by
  have h0:ops[k]? =some o:=by simpa using(hl 0 (by simp)).symm
  simp only[List.length_cons,Region.lexHead,bae] at hB;obtain⟨⟨hr,hf⟩,hH⟩:=hB;have hD:k<n:=by simp only[List.length_cons] at hk;omega
  have hE:k∈Region.ready md ops listed:=by simpa using hr
  have hI:qOp P ops C k (wpQuiet P ops C Lq l) a:=by unfold qOp;simp only[h0];exact h
  obtain⟨v,hy,hK⟩:=yieldsIn_of_qOp h0 hI;exact Xf2 h0 (Region.noSelect_spec hC) hs hc hG hD (λlisted' a' hL=>seqB_ready hL.1) l.length listed a inv (Region.free_spec h0 hf) hE hy
   (XiX hC hs hc l (k+1) _ _ (by omega) (λj hj=>by have:=hl (j+1) (by simp;omega);simpa[Nat.add_assoc,Nat.add_comm 1 j] using this) (by simp only[List.length_cons] at hk;omega) (inv.set hE hD) hH hK)
def Xgy(md:Region.Mode)(ops:Array Oper)(n:Nat):Bool:=
 Region.noSelect ops&&decide (0<n)&&decide (n<ops.size)&&Xdf md ops 1 n&&Region.chainB md ops n&&Region.free md ops (Array.replicate ops.size false) 0&&(Region.ready md ops (Array.replicate ops.size false)).contains 0&&Region.lexHead md ops (ops.size-n) (n-1) 1 ((Array.replicate ops.size false).setIfInBounds 0 true)
theorem Xed{id:Nat}{Q:Exit->Act->World->Prop}{a:Act}{w:World}{o:Oper}{l:List Oper}(n:Nat)(x:Operand)(hm:P.follows .mixedOrders=true)(hB:Xgy .any (o::l).toArray n=true)(ho:o.op=.move x)(hg:o.guard=none)
 (hQ:∀c a w v,Q (.panic c) (a.put o.dst v) w->Q (.panic c) a w) (hC:C {w with drawn:=w.drawn+1})
 (h:wpQuiet P (o::l).toArray C (λa'=>∀w',C w'->wpList P (o::l).toArray Q ((o::l).drop n) a' w') (l.take (n-1)) (a.put o.dst (a.eval x))):(Code.region id (o::l).toArray true).wp P Q a w:=by
 simp only[Xgy,bae,decide_eq_true_eq] at hB;obtain⟨⟨⟨⟨⟨⟨⟨hD,hN⟩,hn⟩,hs⟩,hc⟩,hE⟩,hG⟩,hI⟩:=hB;have hO:n<l.length+1:=by simpa using hn
 have hH:(l.take (n-1)).length=n-1:=by simp;omega
 have hJ:((o::l).drop n).length=(o::l).toArray.size-n:=by simp
 have hz:(o::l).toArray.size=(n-1+((o::l).toArray.size-n))+1:=by omega
 refine wp_region_any hm ?_;have inv0:HeadInv .any (o::l).toArray n (Array.replicate (o::l).toArray.size false):=
  ⟨by simp,λj oj _ hl=>(by rw[getD_replicate_false] at hl;cases hl),λt _ ht=>getD_in (by simpa using ht) (getD_replicate_false _ _)⟩
 have inv1:=inv0.set (i:=0) (by simpa using hG) (by omega);have key:∀F,F=n-1+((o::l).toArray.size-n)+1->wpAny P .any (o::l).toArray Q F (Array.replicate (o::l).toArray.size false) a {w with drawn:=w.drawn+1}:=λF hF=>by
  subst hF;refine wpAny_take (i:=0) (oi:=o) (v:=a.eval x) (by simp) hD hE hG (λc a w=>hQ c a w _) (Or.inl ⟨by simp[Region.wanted,hg],λw=>by simp[execOp,ho]⟩) ?_
  have H:=XiX (md:=.any) (g:=(o::l).toArray.size-n) hD hs hc (l.take (n-1)) 1 _ (a.put o.dst (a.eval x)) nr (λj hj=>by
   have hK:j<n-1:=by rw[hH] at hj;exact hj
   simp[hK,Nat.add_comm 1 j]) (by rw[hH];omega) inv1 (by rw[hH];exact hI) h
  have:=XaN (Q':=Q) (g:=(o::l).toArray.size-n) (λlisted a' w' hM hL=>by
   have:=wpAny_of_seq (md:=.any) (Q':=Q) ((o::l).drop n) n listed a' w' (λj=>by rw[List.getElem?_drop];simp) (by rw[hJ];exact hL.1) (hL.2 w' hM)
   rwa [hJ] at this) _ _ _ _ hC H
  rwa [hH] at this
 exact key _ hz
theorem Xcn{id:Nat}{Q:Exit->Act->World->Prop}{a:Act}(B:Nat){w:World}{o:Oper}{l:List Oper}(n:Nat)(x:Operand)(hm:P.follows .mixedOrders=true)(hB:Xgy .any (o::l).toArray n=true)(ho:o.op=.move x)(hg:o.guard=none)
 (hQ:∀c a w v,Q (.panic c) (a.put o.dst v) w->Q (.panic c) a w)
 (h:wpQuiet P (o::l).toArray (λw'=>∃x:Xb B w,w'=x.val) (λa'=>∀x:Xb B w,wpList P (o::l).toArray Q ((o::l).drop n) a' x.val) (l.take (n-1)) (a.put o.dst (a.eval x))):(Code.region id (o::l).toArray true).wp P Q a w:=
 Xed (C:=λw'=>∃x:Xb B w,w'=x.val) n x hm hB ho hg hQ (Xb.exists_iff ⟨rfl,rfl,rfl,Nat.le_refl _,λ_ _=>rfl⟩) (by
  have e:(λa'=>∀w',(∃x:Xb B w,w'=x.val)->wpList P (o::l).toArray Q ((o::l).drop n) a' w')=(λa'=>∀x:Xb B w,wpList P (o::l).toArray Q ((o::l).drop n) a' x.val):=by
   funext a'
   exact propext ⟨λh x=>h _ ⟨x,rfl⟩,λh w' ⟨x,hx⟩=>hx▸h x⟩
  rw[e]
  exact h)
end
end Go.Proofs.YtdcahhbipeaggaaGreatDoor
