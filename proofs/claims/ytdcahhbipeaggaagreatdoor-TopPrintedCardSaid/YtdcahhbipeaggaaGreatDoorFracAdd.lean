/- Lemmas for TopPrinted: Edge, Round, CopyK, Repeat, RepFrac, Frac, FracOps, FracAdd. -/
import Derived.Test.YtdcahhbipeaggaaGreatDoorFloat
import Derived.OrdersIn
import Derived.OwnWalkIn
import Derived.RangeFuncCalls
import Derived.Laws.IdiomCopy
import Derived.Shelf.Bits.Mul64
import Derived.Ground.SlbNamesProg
import Derived.Shelf.Bytes.SlJoin
import Derived.Deep.RegionLaw
import Derived.Deep.DrawnRows
import Derived.IntWalk
import Derived.Test.YtdcahhbipeaggaaGreatDoorFracLaw
import Derived.Shelf.Spec.BitsCarry
import Derived.Laws.Externs
import Derived.Deep.CutBlock
set_option maxRecDepth 100000
set_option maxHeartbeats 16000000
namespace Go.Proofs.YtdcahhbipeaggaaGreatDoor
open Go.RowKit
def Xy(s i:Nat):List Oper->List Oper
 |[]=>[]
 |o::l=>match s with
  |0=>{o with after:=o.after.push ⟨i,.data⟩}::l
  |s+1=>o::Xy s i l
theorem Xgj(s i:Nat)(o:Oper)(l:List Oper):Xy (s+1) i (o::l)=o::Xy s i l:=rfl
theorem XdQ(i:Nat):∀(s:Nat) (l:List Oper),(Xy s i l).length=l.length
 |s,[]=>by simp[Xy]
 |0,o::l=>rfl
 |s+1,o::l=>by rw[Xgj,List.length_cons,List.length_cons,XdQ i s l]
theorem Xaq(i:Nat):∀(s:Nat) (l:List Oper) (j:Nat),(Xy s i l)[j]? =if j=s then(l[j]?).map (λo=>{o with after:=o.after.push ⟨i,.data⟩}) else l[j]?
 |s,[],j=>by simp[Xy]
 |0,o::l,0=>rfl
 |0,o::l,j+1=>by simp[Xy]
 |s+1,o::l,0=>by simp[Xy]
 |s+1,o::l,j+1=>by
  rw[Xgj,List.getElem?_cons_succ,List.getElem?_cons_succ,Xaq i s l j];simp
theorem Xi6{P:Program}{Q:Exit->Act->World->Prop}{ops ops':Array Oper}{i:Nat}{o:Oper}{t:Operand}{c:Nat}(ho:ops'[i]? =some o)(hg:o.guard=none)(hC:o.op=.extract t c){K:Act->World->Prop}{a:Act}{w:World}(h:wpOp P ops' Q i K a w):
 ∃v,Yields P ops o v a/\K (a.put o.dst v) w:=by
 have hw:∀(ops:Array Oper),Region.wanted o (yielded ops a.tmps)=true:=λops=>by simp[Region.wanted,hg]
 have key:(∃v,a.eval t=.tuple v/\∃u,v[c]? =some u)\/¬∃v,a.eval t=.tuple v/\∃u,v[c]? =some u:=Classical.em _;rcases key with ⟨vs,hv,u,hu⟩|hD
 ·have hr:∀w,(execOp a.eval o).run P w=.ok (.value u) w:=λw=>by
   simp[execOp,hC,hv,Instr.extract,hu]
  refine⟨u,Or.inl ⟨hw ops,hr⟩,?_⟩;unfold wpOp at h;simp only[ho] at h;rw[if_pos (hw ops')] at h;rcases h with h|⟨h,-⟩
  ·unfold Oper.wp at h;rw[hr w] at h;exact h
  ·exfalso;have h1:=h.1;simp[execOp,hC,hv,Instr.extract,hu] at h1;exact absurd h1 (show ¬noRoomEvent∈(#[]:Array Event) by simp)
 ·exfalso;unfold wpOp at h;simp only[ho] at h;rw[if_pos (hw ops')] at h;have he:∃x,execOp a.eval o=(stuck x:Sem Next):=by
   simp only[execOp,hC,Instr.extract];split
   ·rename_i vs hv
    split
    ·rename_i u hu
     exact absurd ⟨vs,hv,u,hu⟩ hD
    ·exact⟨_,rfl⟩
   ·exact⟨_,rfl⟩
  obtain⟨x,hx⟩:=he;rcases h with h|⟨h,-⟩
  ·unfold Oper.wp at h;rw[hx] at h;exact h
  ·have h1:=h.1;rw[hx] at h1;exact absurd h1 (show ¬noRoomEvent∈(#[]:Array Event) by simp)
section
variable {P:Program} {md:Region.Mode} {Q:Exit->Act->World->Prop} {l:List Oper} {s i:Nat}
theorem Xll(s i:Nat)(l:List Oper)(ts:Array Value):yielded (Xy s i l).toArray ts=yielded l.toArray ts:=by
 funext j
 unfold yielded;have e:((Xy s i l).toArray[j]?).bind (·.dst)=(l.toArray[j]?).bind (·.dst):=by
  rw[List.getElem?_toArray,List.getElem?_toArray,Xaq];split
  ·cases l[j]? <;>rfl
  ·rfl
 rw[e]
theorem Xqz{j:Nat}{K K':Act->World->Prop}{a:Act}{w:World}(hK:∀a w,K' a w->K a w)(h:wpOp P (Xy s i l).toArray Q j K' a w):wpOp P l.toArray Q j K a w:=by
 refine wpOp_mono hK ?_;unfold wpOp at*;rw[Xll] at h;have e:=Xaq i s l j;rw[List.getElem?_toArray] at h ⊢;rw[e] at h;by_cases hj:j=s
 ·rw[if_pos hj] at h;cases ho:l[j]? with
  |none=>rw[ho] at h;exact h
  |some o=>rw[ho] at h;exact h
 ·rw[if_neg hj] at h;exact h
theorem Q4{listed:Array Bool}{j:Nat}:j∈Region.ready md (Xy s i l).toArray listed↔j∈Region.ready md l.toArray listed/\(j=s->Region.binds md ⟨i,.data⟩=true->listed.getD i false=true):=by
 rw[mem_ready,mem_ready,List.getElem?_toArray,List.getElem?_toArray,Xaq];by_cases hj:j=s
 ·rw[if_pos hj];cases ho:l[j]? with
  |none=>simp
  |some o=>
   simp only[Option.map_some,Option.some.injEq,exists_eq_left',Array.mem_push];constructor
   ·rintro⟨h1,h2⟩;exact⟨⟨h1,λe he hb=>h2 e (Or.inl he) hb⟩,λ_ hb=>h2 _ (Or.inr rfl) hb⟩
   ·rintro⟨⟨h1,h2⟩,h3⟩;refine⟨h1,λe he hb=> ?_⟩;rcases he with he|rfl
    ·exact h2 e he hb
    ·exact h3 hj hb
 ·rw[if_neg hj];simp[hj]
def Xhm(md:Region.Mode)(l:List Oper)(s i:Nat):Bool:=
 Region.noSelect l.toArray&&decide (i≠s)&&
 (match l[i]?,l[s]? with
 |some oi,some os=>oi.after.all (λe=> !Region.binds md e||os.after.any λe'=>Region.binds md e'&&e'.on==e.on)&&
  (List.range l.length).all λj=>j==i||(match l[j]? with
    |some oj=>(oj.after.any λe=>Region.binds md e&&e.on==i)||(oi.after.any λe=>Region.binds md e&&e.on==j)||oi.apart l.toArray oj
    |none=>true)
 |_,_=>false)
theorem Xod{oi:Oper}{t:Operand}{c:Nat}(hB:Xhm md l s i=true)(hi:l[i]? =some oi)(hg:oi.guard=none)(hW:oi.op=.extract t c)(hQ:∀c a v w,Q (.panic c) (a.put oi.dst v) w->Q (.panic c) a w):
 ∀(fuel:Nat) (listed:Array Bool) (a:Act) (w:World),listed.size=l.length->wpAny P md (Xy s i l).toArray Q fuel listed a w->wpAny P md l.toArray Q fuel listed a w:=by
 simp only[Xhm,hi,bae,decide_eq_true_eq] at hB;obtain⟨⟨hL,hM⟩,hB⟩:=hB;cases hN:l[s]? with
 |none=>rw[hN] at hB;cases hB
 |some os=>
 rw[hN] at hB;simp only[bae] at hB;obtain⟨hO,hX⟩:=hB;have hE:∀listed:Array Bool,listed.size=l.length->s∈Region.ready md l.toArray listed->listed.getD i false=false->i∈Region.ready md l.toArray listed:=λlisted hsz hr hP=>by
  obtain⟨-,os',hC,hH⟩:=mem_ready.1 hr;rw[List.getElem?_toArray,hN] at hC;injection hC with hC;subst hC;rw[mem_ready];refine⟨getD_in (by rw[hsz];exact(lgS hi).1) hP,oi,by rw[List.getElem?_toArray];exact hi,λe he hb=> ?_⟩;have h1:=Array.all_eq_true_iff_forall_mem.1 hO e he;simp only[hb,Bool.not_true,Bool.false_or] at h1;obtain⟨e',hY,h2⟩:=Array.any_eq_true'.1 h1;simp only[bae,beq_iff_eq] at h2;rw[<-h2.2];exact hH e' hY h2.1
 have hI:∀j oj,l.toArray[j]? =some oj->j≠i->(∀e∈oj.after,Region.binds md e=true->e.on≠i)->(∃e∈oi.after,Region.binds md e=true/\e.on=j)\/oi.apart l.toArray oj=true:=λj oj hj hZ hR=>by
  rw[List.getElem?_toArray] at hj;have h1:=List.all_eq_true.1 hX j (List.mem_range.2 (lgS hj).1);simp only[hj,Bool.or_eq_true,beq_iff_eq,hZ,false_or] at h1;rcases h1 with (h1|h1)|h1
  ·obtain⟨e,he,hb⟩:=Array.any_eq_true'.1 h1;simp only[bae,beq_iff_eq] at hb;exact absurd hb.2 (hR e he hb.1)
  ·obtain⟨e,he,hb⟩:=Array.any_eq_true'.1 h1;simp only[bae,beq_iff_eq] at hb;exact Or.inl ⟨e,he,hb⟩
  ·exact Or.inr h1
 have hT:∀listed:Array Bool,listed.size=l.length->Region.ready md (Xy s i l).toArray listed=[]->Region.ready md l.toArray listed=[]:=λlisted hsz h=>by
  rw[List.eq_nil_iff_forall_not_mem];intro j hj;have hn:∀j,j∉Region.ready md (Xy s i l).toArray listed:=λj=>by rw[h];simp
  by_cases hJ:j=s
  ·subst hJ;cases hG:listed.getD i false with
   |true=>exact hn j (Q4.2 ⟨hj,λ_ _=>hG⟩)
   |false=>exact hn i (Q4.2 ⟨hE listed hsz hj hG,λe=>absurd e hM⟩)
  ·exact hn j (Q4.2 ⟨hj,λe=>absurd e hJ⟩)
 intro fuel;induction fuel with
 |zero=>intro listed a w hsz h;exact⟨hT listed hsz h.1,h.2⟩
 |succ fuel ih=>
  intro listed a w hsz h;have ih':∀(j:Nat) (a:Act) (w:World),wpAny P md (Xy s i l).toArray Q fuel (listed.setIfInBounds j true) a w->wpAny P md l.toArray Q fuel (listed.setIfInBounds j true) a w:=λj a w h=>ih _ a w (by simpa using hsz) h;refine⟨λh0=>h.1 ?_,λj hj=> ?_⟩
  ·rw[List.eq_nil_iff_forall_not_mem];intro j hj;have:=(Q4.1 hj).1;rw[h0] at this;cases this
  ·by_cases hU:j∈Region.ready md (Xy s i l).toArray listed
   ·exact Xqz (λa w=>ih' j a w) (h.2 j hU)
   ·have hG:j=s/\listed.getD i false=false:=by
     by_cases hJ:j=s
     ·refine⟨hJ,?_⟩;cases hG:listed.getD i false with
      |false=>rfl
      |true=>exact absurd (Q4.2 ⟨hj,λ_ _=>hG⟩) hU
     ·exact absurd (Q4.2 ⟨hj,λe=>absurd e hJ⟩) hU
    obtain⟨rfl,hG⟩:=hG;have hV:=hE listed hsz hj hG;have h1:=h.2 i (Q4.2 ⟨hV,λe=>absurd e hM⟩);obtain⟨v,hy,hK⟩:=Xi6 (ops:=l.toArray) (ops':=(Xy j i l).toArray) (by rw[List.getElem?_toArray,Xaq,if_neg hM];exact hi) hg hW h1
    have h2:=wpAny_first (ops:=l.toArray) (by rw[List.getElem?_toArray];exact hi) (Region.noSelect_spec hL) (λc a w=>hQ c a v w) fuel listed a w (λk ok hk pA hP hR=>by
     rcases hI k ok hk pA hR with ⟨e,he,hb,rfl⟩|h3
     ·obtain⟨-,oi',hD,hH⟩:=mem_ready.1 hV;rw[List.getElem?_toArray,hi] at hD;injection hD with hD;subst hD;have h4:=hH e he hb;have h5:=getD_both hP;rw[h4] at h5;cases h5
     ·exact h3) hV hy (ih' i _ w hK)
    exact h2.2 j hj
def XgW(Q:Exit->Act->World->Prop)(l:List Oper)(i:Nat):Prop:=∃oi t c,l[i]? =some oi/\oi.guard=none/\oi.op=.extract t c/\∀c a v w,Q (.panic c) (a.put oi.dst v) w->Q (.panic c) a w
theorem Xn4{a:Act}{w:World}(s i:Nat)(hB:Xhm .any l s i=true)(hi:XgW Q l i)
 (h:wpAny P .any (Xy s i l).toArray Q (Xy s i l).toArray.size (Array.replicate (Xy s i l).toArray.size false) a w):wpAny P .any l.toArray Q l.toArray.size (Array.replicate l.toArray.size false) a w:=by
 obtain⟨oi,t,c,h1,h2,h3,h4⟩:=hi;rw[List.size_toArray,XdQ] at h;rw[List.size_toArray];exact Xod hB h1 h2 h3 h4 _ _ _ _ (by simp) h
theorem Xc9{id:Nat}{a:Act}{w:World}(s i:Nat)(hm:P.follows .mixedOrders=true)(hB:Xhm .any l s i=true)(hi:XgW Q l i)
 (h:wpAny P .any (Xy s i l).toArray Q (Xy s i l).toArray.size (Array.replicate (Xy s i l).toArray.size false) a {w with drawn:=w.drawn+1}):(Code.region id l.toArray true).wp P Q a w:=
 wp_region_any hm (Xn4 s i hB hi h)
theorem Xmz{id:Nat}{a:Act}{B:Nat}{w:World}(x0:Xb B w)(hC:B<=w.heap.size)(s i n:Nat)(d1:Tmp)(o1:Obj)(hm:P.follows .mixedOrders=true)(hE:Xhm .any l s i=true)(hi:XgW Q l i)(hB:Xbf .any (Xy s i l).toArray n (n+1)=true)(h1:Z8 P (Xy s i l).toArray n d1 o1)
 (h:∃A:Act,(∀fl,Nonempty (AF B w (λ_=>o1) fl)->wpQuiet P (Xy s i l).toArray (λw'=>∃x:AF B w (λ_=>o1) fl,w'=x.val.val) (λa'=>a'=A) ((Xy s i l).take n) a)/\Xej (Xy s i l).toArray n (n+1) (λ_=>d1) A.tmps.size=true/\a.tmps.size=A.tmps.size/\
   ∀(p:Nat) (z:Xb B w),B<=p->p<z.val.heap.size->z.val.heap[p]? =some o1->wpList P (Xy s i l).toArray Q ((Xy s i l).drop (n+1)) (A.put (some d1) (ZE p)) z.val):
 (Code.region id l.toArray true).wp P Q a x0.val:=by
 obtain⟨A,h2,h3,h4,h5⟩:=h;exact Xc9 s i hm hE hi (Xjj x0 hC n d1 o1 A hB h3 h4 h1 h2 h5)
theorem Xmy{id:Nat}{a:Act}{B:Nat}{w:World}(x0:Xb B w)(hC:B<=w.heap.size)(s i n:Nat)(d1 d2:Tmp)(o1 o2:Obj)(hd:d1≠d2)(hm:P.follows .mixedOrders=true)(hE:Xhm .any l s i=true)(hi:XgW Q l i)(hB:Xbf .any (Xy s i l).toArray n (n+2)=true)(h1:Z8 P (Xy s i l).toArray n d1 o1)(h2:Z8 P (Xy s i l).toArray (n+1) d2 o2)
 (h:∃A:Act,(∀fl,Nonempty (AF B w (λj=>if j=n then o1 else o2) fl)->wpQuiet P (Xy s i l).toArray (λw'=>∃x:AF B w (λj=>if j=n then o1 else o2) fl,w'=x.val.val) (λa'=>a'=A) ((Xy s i l).take n) a)/\Xej (Xy s i l).toArray n (n+2) (λj=>if j=n then d1 else d2) A.tmps.size=true/\a.tmps.size=A.tmps.size/\
   ∀(p q:Nat) (z:Xb B w),B<=p->B<=q->p≠q->p<z.val.heap.size->q<z.val.heap.size->z.val.heap[p]? =some o1->z.val.heap[q]? =some o2->wpList P (Xy s i l).toArray Q ((Xy s i l).drop (n+2)) ((A.put (some d1) (ZE p)).put (some d2) (ZE q)) z.val):
 (Code.region id l.toArray true).wp P Q a x0.val:=by
 obtain⟨A,h3,h4,h5,h6⟩:=h;exact Xc9 s i hm hE hi (Xji x0 hC n d1 d2 o1 o2 hd A hB h4 h5 h1 h2 h3 h6)
theorem Xlb{a:Act}{B:Nat}{w:World}(y:Xb B w)(s i n:Nat)(hE:Xhm .any l s i=true)(hi:XgW Q l i)(hB:Region.lexTailB .any (Xy s i l).toArray n=true)
 (h:wpQuiet P (Xy s i l).toArray (λw'=>∃x:Xb B w,w'=x.val) (λa'=>∀x:Xb B w,wpList P (Xy s i l).toArray Q ((Xy s i l).drop n) a' x.val) ((Xy s i l).take n) a):wpAny P .any l.toArray Q l.toArray.size (Array.replicate l.toArray.size false) a {y.val with drawn:=y.val.drawn+1}:=by
 refine Xn4 s i hE hi ?_;generalize Xy s i l=l at*;simp only[Region.lexTailB,bae,decide_eq_true_eq] at hB;obtain⟨⟨⟨⟨hG,hn⟩,hs⟩,hc⟩,hH⟩:=hB;have hM:n<l.length:=by simpa using hn
 have hD:(l.take n).length=n:=by simp;omega
 have hI:(l.drop n).length=l.toArray.size-n:=by simp
 have inv0:HeadInv .any l.toArray n (Array.replicate l.toArray.size false):=
  ⟨by simp,λj oj _ hl=>(by rw[getD_replicate_false] at hl;cases hl),λt _ ht=>getD_in (by simpa using ht) (getD_replicate_false _ _)⟩
 have hC:∃x:Xb B w,{y.val with drawn:=y.val.drawn+1}=x.val:=Xb.exists_iff (y.below.trans ⟨rfl,rfl,rfl,Nat.le_refl _,λ_ _=>rfl⟩)
 have H:=XgD (md:=.any) (g:=l.toArray.size-n) hG hs hc hn (l.take n) 0 _ a (λj hj=>by
  have hJ:j<n:=by rw[hD] at hj;exact hj
  simp[hJ]) (by simpa using hD) inv0 (by rw[hD];exact hH) h
 have:=XaN (Q':=Q) (g:=l.toArray.size-n) (λlisted a' w' hK hL=>by
  obtain⟨x,rfl⟩:=hK;have:=wpAny_of_seq (md:=.any) (Q':=Q) (l.drop n) n listed a' x.val (λj=>by simp[List.getElem?_drop]) (by rw[hI];exact hL.1) (hL.2 x)
  rwa [hI] at this) _ _ _ _ hC H
 rwa [hD,show n+(l.toArray.size-n)=l.toArray.size by omega] at this
theorem Xsr{id:Nat}{a:Act}{B:Nat}{w:World}(y:Xb B w)(s i n:Nat)(hm:P.follows .mixedOrders=true)(hE:Xhm .any l s i=true)(hi:XgW Q l i)(hB:Region.lexTailB .any (Xy s i l).toArray n=true)
 (h:wpQuiet P (Xy s i l).toArray (λw'=>∃x:Xb B w,w'=x.val) (λa'=>∀x:Xb B w,wpList P (Xy s i l).toArray Q ((Xy s i l).drop n) a' x.val) ((Xy s i l).take n) a):(Code.region id l.toArray true).wp P Q a y.val:=wp_region_any hm (Xlb y s i n hE hi hB h)
end
end Go.Proofs.YtdcahhbipeaggaaGreatDoor
namespace Go.Proofs.YtdcahhbipeaggaaGreatDoor
open Go.RowKit
section
variable {P:Program} {ops:Array Oper} {Q:Exit->Act->World->Prop} {md:Region.Mode} {l n:Nat}
theorem Xh4{i:Nat}{K K':Act->World->Prop}{a:Act}{w:World}(hC:∀o,ops[i]? =some o->∀c,o.op≠ .defer c)(hLo:¬LetsOut Q)(hK:∀a w,K a w->K' a w)(h:wpOp P ops Q i K a w):wpOpIn (Fence.wide.inRound l) n P ops Q i K' a w:=by
 refine wpOpIn_mono hK ?_;unfold wpOp at h;unfold wpOpIn;cases ho:ops[i]? with
 |none=>rw[ho] at h;exact h
 |some o=>
  rw[ho] at h;simp only at h ⊢;split
  ·rename_i hw
   rw[if_pos hw] at h;have h:=h.resolve_right λh=>hLo h.2;refine⟨λ_ _=>trivial,?_⟩;rw[Oper.semAt_plain (Fence.wide.inRound l) a.eval o (hC o ho)];unfold Oper.wp at h;generalize (execOp a.eval o).run P w=r at h;cases r with
   |ok x w'=>
    cases x<;>simp only[Oper.upon] at h<;>simp only[Oper.uponIn]
    case value u=>exact h
    case skip=>exact h
    case defer d=>exact h
    case enter f args=>exact⟨λh0=>(by cases h0),CallsIn.inRound l (callsIn_wide.2 h)⟩
    case row row args=>exact⟨λh0=>(by cases h0),λc cs _=>let ⟨v,w',r,s⟩:=h c cs;⟨v,w',r,stepsIn_wide.2 s⟩⟩
   |halt x w'=>
    cases x<;>simp only[Oper.upon] at h<;>simp only[Oper.uponIn]
    case panic u=>exact h
  ·rename_i hw
   rw[if_neg hw] at h;exact⟨λ_ _=>trivial,h⟩
theorem XbU(hC:∀(i:Nat) (o:Oper),ops[i]? =some o->∀c:Call,o.op≠ .defer c)(hLo:¬LetsOut Q):∀(fuel:Nat) (listed:Array Bool) (a:Act) (w:World),wpAny P md ops Q fuel listed a w->wpAnyIn (Fence.wide.inRound l) n P md ops Q fuel listed a w
 |0,_,_,_,h=>h
 |fuel+1,_,_,_,h=>⟨h.1,λi hi=>Xh4 (hC i) hLo (λ_ _=>XbU hC hLo fuel _ _ _) (h.2 i hi)⟩
def Xp9(ops:Array Oper):Bool:=ops.all λo=>match o.op with|.defer _=>false|_=>true
theorem XlJ(h:Xp9 ops=true)(i:Nat)(o:Oper)(ho:ops[i]? =some o)(c:Call):o.op≠ .defer c:=by
 intro heq;have:=Array.all_eq_true_iff_forall_mem.1 h o (Array.mem_of_getElem? ho);simp[heq] at this
theorem Xfh{id:Nat}{a:Act}{w:World}(hm:P.follows .mixedOrders=true)(hd:Xp9 ops=true)(hLo:¬LetsOut Q)
 (h:wpAny P .any ops Q ops.size (Array.replicate ops.size false) a {w with drawn:=w.drawn+1}):(Code.region id ops true).wpIn (Fence.wide.inRound l) n P Q a w:=
 wpIn_region_any hm (XbU (XlJ hd) hLo _ _ _ _ h)
end
end Go.Proofs.YtdcahhbipeaggaaGreatDoor
namespace Go.Proofs.YtdcahhbipeaggaaGreatDoor
open Go.RowKit
theorem Xil{P:Program}(w:World)(dT sT ty elem:TypeId)(k b o dLen dCap:Nat)(a:Addr)(sLen sCap m:Nat)(cs:List Value)
 (hu:P.underlying dT=some (.slice elem)) (hs:(P.info? elem).map (·.size)=some k) (hm:Nat.min sLen dLen=m) (hn:cs.length=m*k)
 (hC:∀j v,cs[j]? =some v->w.cell? (a.add j)=some v) (hc:∀j,j<cs.length->(w.cell? ⟨b,o+j,none⟩).isSome=true) (hf:∀j,j<cs.length->w.frozen? ⟨b,o+j,none⟩=false) (h1:∀v∈cs,v.oneCell'=true):
 (Builtin.copy_ #[dT,sT] ty #[.slice (some ⟨b,o,none⟩) dLen dCap,.slice (some a) sLen sCap]).run P w=.ok (goInt m) (w.setCells b o cs):=by
 have hl:=run_loadCells_list (P:=P) w a cs hC;have hD:=run_storeCells_cells (P:=P) b o cs 0 w (by simpa using hc) (by simpa using hf) h1;cases hq:P.info? elem with
 |none=>simp[hq] at hs
 |some i=>
  have hi:i.size=k:=by simpa[hq] using hs
  simp[Builtin.copy_,run_underlying hu,Builtin.lenOf,Builtin.firstCells,sizeOf,typeInfo,hq,hi,hm,<-hn,hl,hD]
theorem XdL{t:TypeId}{fr:Nat×Nat}(b:Nat):∀(vs:List Value) (o:Nat) (w:World) {cur:Array Value},w.heap[b]? =some (.cells cur t fr)->∃cur':Array Value,(w.setCells b o vs).heap[b]? =some (.cells cur' t fr)/\cur'.size=cur.size
 |[],_,_,cur,h=>⟨cur,h,rfl⟩
 |v::r,o,w,cur,h=>by
  rw[World.setCells];obtain⟨c,h1,h2⟩:=XdL b r (o+1) _ (Xx (i:=o) h v);exact⟨c,h1,by rw[h2];simp⟩
theorem XtX{P:Program}(W:World)(t e:TypeId)(size:Nat)(ht:P.underlying t=some (.slice e))(hz:∀w,(Go.sizeOf e).run P w=.ok size w)(b o len cap l:Nat)(hl:l<=len)(hc:l<cap):
 (Instr.slice t (.slice (some ⟨b,o,none⟩) len cap) (some (.int .i64 (l:Int))) none none).run P W=.ok (.slice (some ⟨b,o+l*size,none⟩) (len-l) (cap-l)) W:=by
 have hD:P.underlying t=some (.slice (P.elem t)):=by simp[Program.elem,ht]
 have he:P.elem t=e:=by simp[Program.elem,ht]
 rw[run_slice_l W t _ _ _ hD .i64 _ (by omega) (by omega),he,hz];have hC:¬cap=l:=by omega
 by_cases h0:l*size=0
 ·simp[Result.andThen,sliced,Addr.add,hC,h0]
 ·simp[Result.andThen,sliced,Addr.add,hC,h0]
theorem XvQ{P:Program}(W:World)(t e:TypeId)(size:Nat)(ht:P.underlying t=some (.slice e))(hz:∀w,(Go.sizeOf e).run P w=.ok size w)(A:Option Addr)(len cap h:Nat)(hh:h<=cap):
 (Instr.slice t (.slice A len cap) none (some (.int .i64 (h:Int))) none).run P W=.ok (.slice A h cap) W:=by
 have hC:P.underlying t=some (.slice (P.elem t)):=by simp[Program.elem,ht]
 have he:P.elem t=e:=by simp[Program.elem,ht]
 rw[run_slice_h W t _ _ _ hC .i64 _ (by omega) (by omega),he,hz];cases A<;>simp[Result.andThen,sliced,Addr.add]
end Go.Proofs.YtdcahhbipeaggaaGreatDoor
namespace Go.Proofs.YtdcahhbipeaggaaGreatDoor
open Go.RowKit Go.Shelf
def Xnp:Go.Shelf.Ren:=⟨fun|212=>101|263=>156|264=>157|n=>n,fun|46=>196|51=>233|146=>234|53=>236|148=>237|n=>n,fun|n=>n⟩
theorem XuS:Go.Proofs.Lays.n212 Tryz.prog Xnp:={
 mixed:=by kernel_rfl
 f212:=Tryz.func101.trans (congrArg some (by kernel_rfl))
 f263:=Tryz.func156.trans (congrArg some (by kernel_rfl))
 f264:=Tryz.func157.trans (congrArg some (by kernel_rfl))
 t46:=Tryz.underlying196
 a46:=Tryz.isAgg196
 z46:=Tryz.sizeOf196
 v46:=Tryz.zeroValue196
 t51:=Tryz.underlying233
 a51:=Tryz.isAgg233
 z51:=Tryz.sizeOf233
 v51:=Tryz.zeroValue233
 t53:=Tryz.underlying236
 a53:=Tryz.isAgg236
 z53:=Tryz.sizeOf236
 v53:=Tryz.zeroValue236
 t146:=Tryz.underlying234
 a146:=Tryz.isAgg234
 z146:=Tryz.sizeOf234
 v146:=Tryz.zeroValue234
 t148:=Tryz.underlying237
 a148:=Tryz.isAgg237
 z148:=Tryz.sizeOf237
 v148:=Tryz.zeroValue237}
theorem Xt4(x y:Nat)(hx:x<18446744073709551616)(hy:y<18446744073709551616)(w:World):
 Calls Tryz.prog 101 #[.int .u64 x,.int .u64 y] w λe w'=>e=.returned (.tuple #[.int .u64 ((x*y/18446744073709551616:Nat):Int),.int .u64 ((x*y % 18446744073709551616:Nat):Int)])/\w'=w:=Any.bits_Mul XuS x y hx hy w
theorem mul_one(y:Nat)(hy:y<=1000)(w:World):
 Calls Tryz.prog 101 #[.int .u64 1,.int .u64 (y:Int)] w λe w'=>e=.returned (.tuple #[.int .u64 0,.int .u64 (y:Int)])/\w=w':=by
 have h:=Xt4 1 y (by omega) (by omega) w;rw[Nat.one_mul,Nat.div_eq_of_lt (by omega),Nat.mod_eq_of_lt (by omega)] at h;exact h.mono λ_ _ ⟨a,b⟩=>⟨a,b.symm⟩
def XjK:Go.Shelf.Ren:=⟨fun|14=>54|15=>102|n=>n,fun|26=>123|22=>78|3=>3|4=>4|0=>0|9=>9|20=>20|5=>5|n=>n,fun|n=>n⟩
theorem XkT:Go.Proofs.SlLaysJ.n14 Tryz.prog XjK:={
 mixed:=by kernel_rfl
 f14:=Tryz.func54.trans (congrArg some (by kernel_rfl))
 f15:=Tryz.func102.trans (congrArg some (by kernel_rfl))
 t0:=Tryz.underlying0
 a0:=Tryz.isAgg0
 z0:=Tryz.sizeOf0
 v0:=Tryz.zeroValue0
 t3:=Tryz.underlying3
 a3:=Tryz.isAgg3
 z3:=Tryz.sizeOf3
 v3:=Tryz.zeroValue3
 t4:=Tryz.underlying4
 a4:=Tryz.isAgg4
 z4:=Tryz.sizeOf4
 v4:=Tryz.zeroValue4
 t9:=Tryz.underlying9
 a9:=Tryz.isAgg9
 z9:=Tryz.sizeOf9
 v9:=Tryz.zeroValue9
 t20:=Tryz.underlying20
 a20:=Tryz.isAgg20
 z20:=Tryz.sizeOf20
 v20:=Tryz.zeroValue20
 t22:=Tryz.underlying78
 a22:=Tryz.isAgg78
 z22:=Tryz.sizeOf78
 v22:=Tryz.zeroValue78
 t26:=Tryz.underlying123
 a26:=Tryz.isAgg123
 z26:=Tryz.sizeOf123
 v26:=Tryz.zeroValue123
 t5:=Tryz.underlying5
 z5:=Tryz.sizeOf5
 i5:=by kernel_rfl}
theorem XrA(b o n c:Nat)(vs:List Value)(ls:List (List UInt8))(sv:Value)(sep:List UInt8)(w:World)(hn:ls.length=n)(h2:2<=n)(hP:Lib.PartsAt w ⟨b,o,none⟩ vs ls)(hC:n<=c)(hS:Lib.HoldsBytes w sv sep)(hD:n<=140737488355328)(hlen:Lib.lens ls+sep.length*(n-1)<=140737488355328):
 Calls Tryz.prog 54 #[.slice (some ⟨b,o,none⟩) n c,sv] w λe w'=>∃v',e=.returned v'/\Lib.FreshBytes w.heap.size w' v' (Lib.join ls sep)/\Below w.heap.size w w':=Any.bytes_Join_many XkT b o n c vs ls sv sep w hn h2 hP hC hS hD hlen
theorem join_one(b o c:Nat)(ad0:Addr)(c0:Nat)(l0:List UInt8)(sv:Value)(w:World)(hC:w.cell? ⟨b,o,none⟩=some (.slice (some ad0) l0.length c0))(hc:∀(i:Nat) x,l0[i]? =some x->w.cell? (ad0.add i)=some (.int .u8 (x.toNat:Int)))(h0:0<l0.length)(hs:l0.length<=140737488355328):
 Calls Tryz.prog 54 #[.slice (some ⟨b,o,none⟩) 1 c,sv] w λe w'=>∃v',e=.returned v'/\Lib.FreshBytes w.heap.size w' v' l0/\Below w.heap.size w w':=Any.bytes_Join_one XkT b o c ad0 c0 l0 sv w hC hc h0 hs
theorem Xei{P:Program}{ops:Array Oper}{o:Oper}{a:Act}{w:World}{K:Act->World->Prop}{Q:Exit->Act->World->Prop}{E:Prop}(hC:o.guard=none)(d s:Operand)(t t':TypeId)
 (ho:o.op=.call {callee:=.builtin .copy,args:=#[d,s],argTypes:=#[t,t']}) (v u:Value) (hd:a.eval d=v) (hs:a.eval s=u) {v':Value} {w':World}
 (hr:(Builtin.copy_ #[t,t'] o.type #[v,u]).run P w=.ok v' w') (h:K (a.put o.dst v') w'):if Region.wanted o (yielded ops a.tmps)=true then Oper.wp P o a w K Q else E:=by
 have hw:Region.wanted o (yielded ops a.tmps)=true:=by simp[Region.wanted,hC]
 rw[if_pos hw];exact Lib.wp_copy_run w d s t t' ho v u hd hs hr h
theorem Xvf{w0 wr:World}{h N:Nat}{acc:List UInt8}(hb:Lib.Buf w0 wr h N acc):Lib.Buf w0 wr.drew h N acc:=⟨hb.below.drew,hb.there,hb.free,hb.holds,hb.fits⟩
theorem Xr9{P:Program}(w0 wr:World)(h N bp ch cc:Nat)(x:UInt8)(t ty e:TypeId)(hu:P.underlying t=some (.slice e))(hs:(P.info? e).map (·.size)=some 1)(hb:Lib.Buf w0 wr h N (List.replicate bp x))(hG:bp<N)(hH:ch<=bp):
 ∃wr',(Builtin.copy_ #[t,t] ty #[Lib.tailV h N bp,.slice (some ⟨h,0,none⟩) ch cc]).run P wr=.ok (.int .i64 ((Nat.min ch (N-bp):Nat):Int)) wr'/\Lib.Buf w0 wr' h N (List.replicate (bp+Nat.min ch (N-bp)) x):=by
 have hI:Nat.min ch (N-bp)<=ch:=Nat.min_le_left _ _;have hJ:Nat.min ch (N-bp)<=N-bp:=Nat.min_le_right _ _;generalize hm:Nat.min ch (N-bp)=m at*;have hr:=run_copy_cells (P:=P) wr t t ty e h bp (N-bp) (N-bp) ⟨h,0,none⟩ ch cc (List.replicate m (Value.int .u8 (x.toNat:Int))) hu hs (by rw[List.length_replicate,hm])
  (λj u hj=>by
    rw[List.getElem?_replicate] at hj;split at hj
    ·injection hj with hj;subst hj;have:=hb.holds j x (by rw[List.getElem?_replicate,if_pos (by omega)]);simpa[Addr.add] using(by split<;>simp_all:wr.cell? (if j=0 then(⟨h,0,none⟩:Addr) else⟨h,j,none⟩)=some (.int .u8 (x.toNat:Int)))
    ·cases hj)
  (λj hj=>by rw[List.length_replicate] at hj;exact hb.there _ (by omega)) (λj hj=>by rw[List.length_replicate] at hj;exact hb.free _ (by omega))
  (λu hD=>by rw[List.mem_replicate] at hD;rw[hD.2];rfl)
 rw[List.length_replicate] at hr;refine⟨_,by unfold Lib.tailV;rw[if_neg (by omega)];exact hr,?_⟩;have hE:=World.cell?_setCells_in h (List.replicate m (Value.int .u8 (x.toNat:Int))) bp wr (λj hj=>by rw[List.length_replicate] at hj;exact hb.there _ (by omega));have hC:=World.cell?_setCells_out h (List.replicate m (Value.int .u8 (x.toNat:Int))) bp wr;refine⟨Lib.below_setCells h nr _ _ hb.below,λj hj=> ?_,λj hj=>by rw[World.frozen?_setCells];exact hb.free j hj,λj y hy=> ?_,by rw[List.length_replicate];omega⟩
 ·by_cases h1:bp<=j/\j<bp+m
  ·obtain⟨d,rfl⟩:∃d,j=bp+d:=⟨j-bp,by omega⟩
   rw[hE d (by rw[List.length_replicate];omega)];rfl
  ·rw[hC ⟨h,j,none⟩ (λ_ _=>by rw[List.length_replicate];show j<_\/_<=j;omega)];exact hb.there j hj
 ·rw[List.getElem?_replicate] at hy;split at hy
  ·injection hy with hy;subst hy;by_cases h1:j<bp
   ·rw[hC ⟨h,j,none⟩ (λ_ _=>Or.inl h1)];exact hb.holds j x (by rw[List.getElem?_replicate,if_pos h1])
   ·obtain⟨d,rfl⟩:∃d,j=bp+d:=⟨j-bp,by omega⟩
    rw[hE d (by rw[List.length_replicate];omega)];simp
  ·cases hy
theorem XoH(x:UInt8)(a:Addr)(cap C:Nat)(hZ:1<=C)(pA:C<=400)(w:World)(hC:w.cell? a=some (.int .u8 (x.toNat:Int))):
 Calls Tryz.prog 50 #[.slice (some a) 1 cap,.int .i64 (C:Int)] w λe w'=>e=.returned (.slice (some ⟨w.heap.size,0,none⟩) C C)/\Lib.Buf w w' w.heap.size C (List.replicate C x):=by
 have hQ:((C:Int)==0)=false:=by simp;omega
 have K1:=Xa λv=>mul_one C (by omega) v;have HH:=Xa hC;clear hC;have hH:decide ((9223372036854775807:Int)<(C:Int))=false:=by simp;omega
 have hI:decide ((C:Int)<0)=false:=by simp
 have hJ:decide ((8192:Int)<(C:Int))=false:=by simp;omega
 obtain⟨cs,hD,hM,_⟩:=Lib.run_makeNoZero (P:=Tryz.prog) w #[3] 78 5 Tryz.underlying78 C (by omega);have hE:(callFunc 102 #[.int .i64 (C:Int)]).run Tryz.prog w=.ok (.value (.slice (some ⟨w.heap.size,0,none⟩) C cs.size)) ((w.alloc (.cells cs 5)).drewN 2):=by
  rw[run_callFunc_extern Tryz.func102 (by kernel_rfl) (by kernel_rfl) (by kernel_rfl) (e:=Extern.BytealgMakeNoZero.makeNoZero #[3] #[78]) (by kernel_rfl),hD];rfl
 clear hD;have i0:(0:Int)<=(C:Int):=by omega
 have i1:(C:Int)<=(cs.size:Int):=by omega
 have B0:=Lib.Buf.start w cs 5 C 2 hM;have hK:(Tryz.prog.info? 5).map (·.size)=some 1:=by kernel_rfl
 have hG:Lib.HoldsBytes w (.slice (some a) 1 cap) [x]:=by
  refine⟨some a,cap,rfl,λh=>by simp at h,λa' hR i y hy=> ?_⟩;have e:a'=a:=(Option.some.inj hR).symm;rw[e]
  match i,hy with
  |0,hy=>
   have e2:x=y:=by simpa using hy
   rw[<-e2];simpa[Addr.add] using HH.out
 obtain⟨w1,hL,B1⟩:=Lib.copy_part (P:=Tryz.prog) w _ w.heap.size C [] [x] (.slice (some a) 1 cap) 78 3 5 Tryz.underlying78 hK nr B0 hG (by simp;omega);rw[List.length_nil,Lib.tailV_zero] at hL;rw[List.nil_append] at B1;have hN:=Xa hL;have hO:=Xa (show Lib.Buf w w1 w.heap.size C (List.replicate 1 x) from B1);have hT:=Xa hK;clear B0 B1 hL hK hM;go_enter Tryz.func50,Tryz.ntmps50
 go_wp2_with (first
  |(go_at_call 101;refine(K1.out _).mono ?_;rintro e w' ⟨rfl,rfl⟩)
  |((with_reducible show wpList _ _ _ (Oper.mk (some 60) _ _ _ _ _::_) _ _);refine Lib.wpList_copy_run (o:=⟨some 60,_,_,_,_,_⟩) _ rfl (.tmp 58) (.tmp 59) 78 78 rfl _ _ rfl rfl hN.out ?_))
 clear hN hE;clear hH hI hJ hQ i1;go_loopw [10,11] (λv _ wr=>∃bp:Nat,v=.int .i64 bp/\1<=bp/\bp<=C/\Lib.Buf w wr w.heap.size C (List.replicate bp x)) (λv _ _=>C-(intOf v).toNat)
 case atStart=>exact⟨1,by simp,by omega,by omega,hO.out⟩
 case round=>
  obtain⟨bp,rfl,pB,pC,hB⟩:=hrel;have HB:=Xa hB;clear hB hO;by_cases hU:bp<C
  ·have hV:∀W,(Instr.slice 78 (.slice (some ⟨w.heap.size,0,none⟩) C C) (some (.int .i64 (bp:Int))) none none).run Tryz.prog W=.ok (Lib.tailV w.heap.size C bp) W:=λW=>Lib.run_slice_tailV W 78 5 Tryz.underlying78 (λw=>Tryz.sizeOf5 w) w.heap.size C bp (by omega);obtain⟨w2,hP,B2⟩:=Xr9 (P:=Tryz.prog) w wr.drew w.heap.size C bp bp C x 78 3 5 Tryz.underlying78 hT.out (Xvf HB.out) hU nr;have pD:1<=Nat.min bp (C-bp):=by rw[Nat.le_min];omega
   have pE:bp+Nat.min bp (C-bp)<=C:=by have:Nat.min bp (C-bp)<=C-bp:=Nat.min_le_right _ _;omega
   generalize Nat.min bp (C-bp)=m at*;have hW:=Xa hP;have hX:=Xa B2;clear hP B2;have b0:(0:Int)<=(bp:Int):=by omega
   have hY:min (bp:Int) (C:Int)=(bp:Int):=by omega
   have b1:(bp:Int)<=(C:Int):=by omega
   go_wp2_with fail;have hw:IntKind.i64.wrap ((bp:Int)+(m:Int))=(bp:Int)+(m:Int):=IntWalk.i64_in _ (by omega);go_region_law ((refine Xei (by rfl) (.tmp 70) (.tmp 73) 78 78 (by rfl) (Lib.tailV w.heap.size C bp) (.slice (some ⟨w.heap.size,0,none⟩) bp C) (by go_simp) (by go_simp) hW.out ?_));go_simp;go_wp2;exact⟨⟨bp+m,by go_num,by omega,by omega,hX.out⟩,by simp[intOf];omega⟩
  ·have e:bp=C:=by omega
   subst e;go_wp2;go_ret;exact⟨rfl,HB.out⟩
end Go.Proofs.YtdcahhbipeaggaaGreatDoor
namespace Go.Proofs.YtdcahhbipeaggaaGreatDoor
open Go.RowKit Go.Shelf
def fz(j:Nat):Value:=if j % 2=0 then .int .i64 0 else .int .i64 1
theorem XuY(k j:Nat):fz (k*2+j)=fz j:=by unfold fz;rw[show(k*2+j) % 2=j % 2 by omega]
def Xc8(W:World)(g n k:Nat):Prop:=∃cur:Array Value,W.heap[g]? =some (.cells cur 110 (0,0))/\cur.size=n*2/\∀j,j<k*2->cur[j]? =some (fz j)
theorem Xc8.isSome{W:World}{g n k j:Nat}(h:Xc8 W g n k)(hj:j<n*2):(W.cell? ⟨g,j,none⟩).isSome=true:=by
 obtain⟨cur,h1,h2,-⟩:=h;rw[Lib.cell_of_heap h1,Array.getElem?_eq_getElem (by omega)];rfl
theorem Xc8.cell{W:World}{g n k j:Nat}(h:Xc8 W g n k)(hj:j<k*2):W.cell? ⟨g,j,none⟩=some (fz j):=by
 obtain⟨cur,h1,-,h3⟩:=h;rw[Lib.cell_of_heap h1];exact h3 j hj
theorem Xc8.unfrozen{W:World}{g n k:Nat}(h:Xc8 W g n k)(j:Nat):W.frozen? ⟨g,j,none⟩=false:=by
 obtain⟨cur,h1,-⟩:=h;exact Xe h1 j
theorem Xc8.drew{W:World}{g n k:Nat}(h:Xc8 W g n k):Xc8 W.drew g n k:=h
def Qv(m:Nat):List Value:=(List.range (m*2)).map fz
theorem Qe(m:Nat):(Qv m).length=m*2:=by simp[Qv]
theorem Xhc{m j:Nat}{v:Value}(h:(Qv m)[j]? =some v):j<m*2/\v=fz j:=by
 have hj:=(lgS h).1;rw[Qe] at hj;simp[Qv,hj] at h;exact⟨hj,h.symm⟩
theorem Xc8.copied{W:World}{g n k m:Nat}(h:Xc8 W g n k)(hm:k+m<=n):Xc8 (W.setCells g (k*2) (Qv m)) g n (k+m):=by
 have hs:=λj (hj:j<n*2)=>h.isSome hj;have hc:=λj (hj:j<k*2)=>h.cell hj;obtain⟨cur,h1,h2,h3⟩:=h;obtain⟨c',k1,k2⟩:=XdL g (Qv m) (k*2) W h1;refine⟨c',k1,by omega,λj hj=> ?_⟩;rw[<-Lib.cell_of_heap k1];by_cases hC:j<k*2
 ·rw[World.cell?_setCells_out _ _ _ _ _ (λ_ _=>Or.inl hC)];exact hc j hC
 ·obtain⟨i,rfl⟩:∃i,j=k*2+i:=⟨j-k*2,by omega⟩
  rw[World.cell?_setCells_in g (Qv m) (k*2) W (λi hi=>hs _ (by rw[Qe] at hi;omega)) i (by rw[Qe];omega),XuY];simp[Qv]
theorem Xtv:(Tryz.prog.info? 110).map (λi=>(i.zero,i.size,i.bytes))=some (some (.agg #[.int .i64 0,.int .i64 0]),2,16):=by kernel_rfl
theorem XmR:(Tryz.prog.info? 110).map (·.size)=some 2:=by kernel_rfl
theorem XtC(m:Nat):∀v∈Qv m,v.oneCell'=true:=λv hv=>by
 obtain⟨j,-,rfl⟩:=List.mem_map.1 hv;unfold fz;split<;>rfl
theorem Xm1(A:Addr)(cap n:Nat)(hn:n<=20)(w:World)(h0:w.cell? A=some (.int .i64 0))(h1:w.cell? (A.add 1)=some (.int .i64 1))(hA:A.block<w.heap.size):
 Calls Tryz.prog 183 #[.slice (some A) 1 cap,.int .i64 (n:Int)] w λe w'=>e=.returned (.slice (some ⟨w.heap.size,0,none⟩) n n)/\Xc8 w' w.heap.size n n/\Below w.heap.size w w':=by
 have K1:=Xa λv=>mul_one n (by omega) v;obtain⟨i0,hi,hR,hT,hU⟩:=info_parts Xtv;have hV:decide ((n:Int)<0)=false:=by simp
 have hE:(Instr.makeSlice 106 (.int .i64 (n:Int)) (.int .i64 (n:Int))).run Tryz.prog w=.ok (.slice (some ⟨w.heap.size,0,none⟩) n n) (w.alloc (.cells (madeCells #[.int .i64 0,.int .i64 0] (n*2)) 110)):=by
  have:=run_make (P:=Tryz.prog) w 106 110 i0 _ Tryz.underlying106 hi hR .i64 .i64 n n (by omega) (Int.le_refl _) (by rw[hU];omega) (by omega);rw[hT] at this;simpa[Value.cells] using this
 have hG:Xc8 (w.alloc (.cells (madeCells #[.int .i64 0,.int .i64 0] (n*2)) 110)) w.heap.size n 0:=by
  refine⟨madeCells #[.int .i64 0,.int .i64 0] (n*2),heap_alloc_new w _,?_,λj hj=>by omega⟩;exact size_madeCells _ _
 have hH:Below w.heap.size w (w.alloc (.cells (madeCells #[.int .i64 0,.int .i64 0] (n*2)) 110)):=brf.alloc nr _;generalize w.alloc (.cells (madeCells #[.int .i64 0,.int .i64 0] (n*2)) 110)=V at hE hG hH;have hJ:∃m W,(m=1\/n=0)/\m<=n/\(Builtin.copy_ #[106,106] 3 #[.slice (some ⟨w.heap.size,0,none⟩) n n,.slice (some A) 1 cap]).run Tryz.prog V=.ok (.int .i64 (m:Int)) W/\Xc8 W w.heap.size n m/\Below w.heap.size w W:=by
  have hr:=Xil (P:=Tryz.prog) V 106 106 3 110 2 w.heap.size 0 n n A 1 cap (min 1 n) (Qv (min 1 n)) Tryz.underlying106 XmR (by simp[Nat.min_def]) (by rw[Qe]) (λj v hj=>by
   obtain⟨hj,rfl⟩:=Xhc hj;have hj:j<2:=by omega
   match j,hj with
   |0,_=>simpa[Addr.add,fz] using(hH.cell hA).trans h0
   |1,_=>exact(hH.cell (by exact hA)).trans h1) (λj hj=>by rw[Qe] at hj;exact hG.isSome (by omega)) (λj _=>hG.unfrozen _) (XtC _)
  refine⟨_,_,by omega,by omega,hr,?_,Lib.below_setCells _ nr _ _ hH⟩;simpa using hG.copied (m:=min 1 n) (by omega)
 obtain⟨m0,V1,pC,pD,hM,hJ,hK⟩:=hJ;have HM:=Xa hE;have hN:=Xa hM;have hO:=Xa hJ;have hP:=Xa hK;clear hE hM hJ hG hH hK;go_enter Tryz.func183,Tryz.ntmps183;have hE:=HM.out;clear HM
 go_wp2_with (first
  |(go_at_call 101;refine(K1.out _).mono ?_;rintro e w' ⟨rfl,rfl⟩)
  |((with_reducible show wpList _ _ _ (Oper.mk (some 33) _ _ _ _ _::_) _ _);refine Lib.wpList_copy_run (o:=⟨some 33,_,_,_,_,_⟩) _ rfl (.tmp 31) (.tmp 32) 106 106 rfl _ _ rfl rfl hN.out ?_))
 clear hN hE;go_loopw [8] (λv wr=>∃bp:Nat,v=.int .i64 bp/\(1<=bp\/n=0)/\bp<=n/\Xc8 wr w.heap.size n bp/\Below w.heap.size w wr) (λv _=>n-(intOf v).toNat)
 case atStart=>exact⟨m0,by simp,by omega,by omega,hO.out,hP.out⟩
 case round=>
  obtain⟨bp,rfl,hK,hW,hB,hI⟩:=hrel;have HB:=Xa hB;have hD:=Xa hI;clear hB hI hO hP;by_cases hX:bp<n
  ·have hY:∀W,(Instr.slice 106 (.slice (some ⟨w.heap.size,0,none⟩) n n) (some (.int .i64 (bp:Int))) none none).run Tryz.prog W=.ok (.slice (some ⟨w.heap.size,bp*2,none⟩) (n-bp) (n-bp)) W:=λW=>by
    simpa using XtX (P:=Tryz.prog) W 106 110 2 Tryz.underlying106 (λw=>Tryz.sizeOf110 w) w.heap.size 0 n n bp (by omega) hX
   have hZ:∀W,(Instr.slice 106 (.slice (some ⟨w.heap.size,0,none⟩) n n) none (some (.int .i64 (bp:Int))) none).run Tryz.prog W=.ok (.slice (some ⟨w.heap.size,0,none⟩) bp n) W:=λW=>XvQ (P:=Tryz.prog) W 106 110 2 Tryz.underlying106 (λw=>Tryz.sizeOf110 w) _ n n bp hW
   have hL:=Xil (P:=Tryz.prog) wr.drew 106 106 3 110 2 w.heap.size (bp*2) (n-bp) (n-bp) ⟨w.heap.size,0,none⟩ bp n (min bp (n-bp)) (Qv (min bp (n-bp))) Tryz.underlying106 XmR rfl (by rw[Qe]) (λj v hj=>by
    obtain⟨hj,rfl⟩:=Xhc hj;have:=HB.out.drew.cell (j:=j) (by omega)
    simpa[Addr.add] using(by split<;>simp_all:wr.drew.cell? (if j=0 then(⟨w.heap.size,0,none⟩:Addr) else⟨w.heap.size,j,none⟩)=some (fz j))) (λj hj=>by rw[Qe] at hj;exact HB.out.drew.isSome (by omega)) (λj _=>HB.out.drew.unfrozen _) (XtC _)
   have hQ:=Xa (HB.out.drew.copied (m:=min bp (n-bp)) (by omega));have hC:=Xa (Lib.below_setCells w.heap.size nr (Qv (min bp (n-bp))) (bp*2) hD.out.drew);have pE:1<=min bp (n-bp):=by omega
   have pF:bp+min bp (n-bp)<=n:=by omega
   have pA:min bp (n-bp)<=n:=by omega
   clear HB hD;generalize wr.drew.setCells w.heap.size (bp*2) (Qv (min bp (n-bp)))=V2 at hL hQ hC;generalize min bp (n-bp)=m at*;have pB:=Xa hL;clear hL;go_wp2_with fail;have hw:IntKind.i64.wrap ((bp:Int)+(m:Int))=(bp:Int)+(m:Int):=IntWalk.i64_in _ (by omega);go_region_law ((refine Xei (by rfl) (.tmp 41) (.tmp 44) 106 106 (by rfl) (.slice (some ⟨w.heap.size,bp*2,none⟩) (n-bp) (n-bp)) (.slice (some ⟨w.heap.size,0,none⟩) bp n) (by go_simp) (by go_simp) pB.out ?_));go_simp;go_wp2;exact⟨⟨bp+m,by go_num,by omega,by omega,hQ.out,hC.out⟩,by simp[intOf];omega⟩
  ·have e:bp=n:=by omega
   subst e;go_wp2;go_ret;exact⟨rfl,HB.out,hD.out⟩
end Go.Proofs.YtdcahhbipeaggaaGreatDoor
namespace Go.Proofs.YtdcahhbipeaggaaGreatDoor
open Go.RowKit
theorem Xl9(a b:Nat)(ha:a<18446744073709551616)(hb:b<18446744073709551616)(w:World):
 Calls Tryz.prog 177 #[.int .u64 a,.int .u64 b] w (Xc w (.int .u64 (Nat.gcd a b))):=by
 go_enter Tryz.func177,Tryz.ntmps177;go_wp2;go_loopw [0,1] (λu v wr=>∃x y:Nat,u=.int .u64 x/\v=.int .u64 y/\x<18446744073709551616/\y<18446744073709551616/\Nat.gcd x y=Nat.gcd a b/\∃z:Xb w.heap.size w,wr=z.val) (λ_ v _=>(intOf v).toNat)
 case atStart=>exact⟨a,b,rfl,rfl,ha,hb,rfl,Xb.refl _ _,rfl⟩
 case round=>
  obtain⟨x,y,rfl,rfl,hx,hy,hg,z,rfl⟩:=hrel;by_cases h0:y=0
  ·subst h0;go_wp2;go_ret;rw[Nat.gcd_zero_right] at hg;exact Xc.mk (by simp[hg]) z.below
  ·have hD:((y:Int)==0)=false:=by simp;omega
   have hC:((y:Int) !=0)=true:=by simp;omega
   have hn:¬(y:Int)=0:=by omega
   go_wp2;refine Xk z (by kernel_rfl) (by kernel_rfl) ?_
   repeat (go_big_quiet_step (fail))
   refine wpQuiet_nil ?_;intro z;go_wp2;refine⟨⟨y,x % y,rfl,?_,hy,Nat.lt_of_lt_of_le (Nat.mod_lt _ (by omega)) (by omega),by rw[<-hg,Nat.gcd_comm x y,Nat.gcd_rec y x,Nat.gcd_comm],z,rfl⟩,?_⟩
   ·rw[Int.natCast_emod]
   ·simp only[intOf,<-Int.natCast_emod,Int.toNat_natCast];exact Nat.mod_lt _ (by omega)
theorem Xd0(n:Int)(h:I64 n)(w:World):Calls Tryz.prog 178 #[.int .i64 n] w (Xc w (.int .u64 (n.natAbs:Nat))):=by
 obtain⟨h1,h2⟩:=h;go_enter Tryz.func178,Tryz.ntmps178;go_wp2
 all_goals
  go_ret;exact Xc.mk (congrArg (Value.int .u64) (by first|omega|(rw[IntKind.wrap_u64,IntKind.wrap_u64];omega))) brf
theorem Xma(n:Int)(e:Nat)(h1:1<=e)(h2:e<=1152921504606846976)(h3: -1152921504606846976<=n)(h4:n<=1152921504606846976)(hg:Nat.gcd n.natAbs e=1)(w:World):
 Calls Tryz.prog 140 #[.agg #[.int .i64 n,.int .i64 (e:Int)]] w (Xc w (.bool true)):=by
 obtain⟨W,hW,hG,hD,hC⟩:=boxed w (.cells #[.int .i64 n,.int .i64 (e:Int)] 110);have hI:=λy:Xb W.heap.size W=>y.cells hC (by omega) 0 _ rfl;have hJ:=λy:Xb W.heap.size W=>y.cells hC (by omega) 1 _ rfl;have hE:=bdo hD;have YR:W=(Xb.refl W.heap.size W).val:=rfl;have HW:=Xa hW;have hH:=Xa hE;have HG:=Xa hg;have i1:(1:Int)<=(e:Int):=by omega
 have i2:(e:Int)<=1152921504606846976:=by omega
 clear hW hG hC hD hE hg;go_enter Tryz.func140,Tryz.ntmps140;go_wp2_with fail;rw[<-HW.out,YR];refine Xk (Xb.refl _ _) (by kernel_rfl) (by kernel_rfl) ?_
 repeat (go_big_quiet_step (first
  |(go_at_call 178;exact Xc.after nr (Xd0 n ⟨by omega,by omega⟩ _))
  |(go_at_call 177;exact Xc.after nr (Xl9 n.natAbs e (by omega) (by omega) _))))
 refine wpQuiet_nil ?_;intro z;go_wp2;go_ret;exact Xc.mk (congrArg Value.bool (by rw[HG.out];simp)) (hH.out z)
def Xax(x:Nat):Value:=.agg #[.int .u64 0,.int .u64 (x:Int)]
theorem Xm5(a b:Nat)(ha:a<18446744073709551616)(hb:b<18446744073709551616)(hD:a*b<18446744073709551616)(w:World):
 Calls Tryz.prog 192 #[.int .u64 (a:Int),.int .u64 (b:Int)] w (Xc w (Xax (a*b))):=by
 have key:∀v:World,Calls Tryz.prog 157 #[.int .u64 (a:Int),.int .u64 (b:Int)] v (Xc v (.tuple #[.int .u64 0,.int .u64 ((a*b:Nat):Int)])):=λv=>by
  refine Calls.mono (Tryz.bits_Mul64 a b ha hb v) ?_;rintro e w' ⟨rfl,rfl⟩;rw[Nat.div_eq_of_lt hD,Nat.mod_eq_of_lt hD];exact⟨rfl,Below.refl _ _⟩
 obtain⟨m,hm⟩:∃m,m=a*b:=⟨_,rfl⟩
 rw[<-hm] at key ⊢;obtain⟨W,hW,hI,hE,hC⟩:=boxed w (.cells #[.int .u64 0,.int .u64 0] 272 (0,0));have hL:=λy:Xb W.heap.size W=>y.cells hC (by omega) 0 _ rfl;have hM:=λy:Xb W.heap.size W=>y.cells hC (by omega) 1 _ rfl;have hN:=λ(y:Xb W.heap.size W) (i:Nat)=>Xe ((y.below.block _ (by omega)).trans hC) i;have hG:=bdo hE;have hH:=λy:Xb W.heap.size W=>(y.below.block _ (by omega:w.heap.size<W.heap.size)).trans hC;have HW:=Xa hW;have hJ:=Xa hG;have hK:=Xa hH;clear hH;clear hD hm hW hG hE hC hI;go_enter Tryz.func192,Tryz.ntmps192;go_wp2_with fail
 rw[<-HW.out];refine(Xc.first (key _)).mono ?_;rintro e w' ⟨rfl,y,rfl⟩;go_wp2_with fail;have c:=Xi (XR (c:=.int .u64 0) (d:=.int .u64 (m:Int)) (hK.out y));refine bodyPost_ret (v:=Xax m) (by simp[results,Tryz.results192,go_sem,c.1,c.2,Xax]) rfl ⟨rfl,?_⟩;exact((hJ.out y).setCell nr _).setCell nr _
def frV(f:Int×Nat):Value:=.agg #[.int .i64 f.1,.int .i64 (f.2:Int)]
theorem XeR(neg:Bool)(n d:Nat)(hn:n<=1152921504606846976)(hd:d<=1152921504606846976)(w:World):
 Calls Tryz.prog 193 #[.bool neg,.int .u64 (n:Int),.int .u64 (d:Int)] w (Xc w (.tuple #[frV (if neg then-(n:Int) else(n:Int),d),.int .i64 0])):=by
 have n1:¬((n:Int)>1152921504606846976):=by omega
 have n2:¬((d:Int)>1152921504606846976):=by omega
 have n3:¬(1152921504606846976<(n:Int)):=by omega
 have n4:¬(1152921504606846976<(d:Int)):=by omega
 have i1:(0:Int)<=(n:Int):=by omega
 have i2:(0:Int)<=(d:Int):=by omega
 have hC:IntKind.i64.wrap (n:Int)=(n:Int):=by rw[IntKind.wrap_i64];omega
 have hD:IntKind.i64.wrap (d:Int)=(d:Int):=by rw[IntKind.wrap_i64];omega
 have hE:=Xa hC;cases neg
 ·go_enter Tryz.func193,Tryz.ntmps193;go_wp2;go_returns;exact Xc.mk rfl (brf.alloc nr _)
 ·go_enter Tryz.func193,Tryz.ntmps193;go_wp2;go_returns;exact Xc.mk rfl (brf.alloc nr _)
theorem XtG(n:Int)(d:Nat):(if decide (n<0) then-((n.natAbs/Nat.gcd n.natAbs d:Nat):Int) else((n.natAbs/Nat.gcd n.natAbs d:Nat):Int),d/Nat.gcd n.natAbs d)=fmk n d:=by
 unfold fmk;have hd:((Nat.gcd n.natAbs d:Nat):Int)∣n:=Int.ofNat_dvd_left.2 (Nat.gcd_dvd_left _ _);generalize Nat.gcd n.natAbs d=g at hd ⊢;congr 1;by_cases h:n<0
 ·rw[decide_eq_true h,if_pos rfl,Int.natCast_ediv];have e:((n.natAbs:Nat):Int)= -n:=by omega
  rw[e,Int.neg_ediv_of_dvd hd,Int.neg_neg]
 ·rw[decide_eq_false h,if_neg (by simp),Int.natCast_ediv];have e:((n.natAbs:Nat):Int)=n:=by omega
  rw[e]
theorem Xnk(n:Int)(d:Nat)(hn:n.natAbs<=1152921504606846976)(hH:0<d)(hd:d<=1152921504606846976)(w:World):
 Calls Tryz.prog 186 #[.int .i64 n,.int .i64 (d:Int)] w (Xc w (.tuple #[frV (fmk n d),.int .i64 0])):=by
 have hz:((d:Int)==0)=false:=by simp;omega
 have hQ:¬(d:Int)=0:=by omega
 have hR:¬(d:Int)<0:=by omega
 obtain⟨W,hW,hI,hE,hD⟩:=boxed w (.cells #[.int .i64 0,.int .i64 0] 110 (0,0));have hc:=Xi hD;have hC:=λy:Xb W.heap.size W=>(y.below.block _ (by omega:w.heap.size<W.heap.size)).trans hD;have hJ:=λy:Xb W.heap.size W=>(Xi (hC y)).1;have hK:=λy:Xb W.heap.size W=>(Xi (hC y)).2;have hL:=λ(y:Xb W.heap.size W) (i:Nat)=>Xe (hC y) i;have hG:=bdo hE;have HW:=Xa hW;have hM:=Xa hG;have hN:=Xa hC;clear hW hE hD hI hC hG hc;have hsz:n.natAbs<18446744073709551616:=by omega
 obtain⟨g,hg⟩:∃g,g=Nat.gcd n.natAbs d:=⟨_,rfl⟩
 have hO:0<g:=hg▸Nat.gcd_pos_of_pos_right _ hH;have hT:¬(g:Int)=0:=by omega
 have kg:∀v:World,Calls Tryz.prog 177 #[.int .u64 (n.natAbs:Nat),.int .u64 (d:Int)] v (Xc v (.int .u64 (g:Int))):=λv=>hg▸Xl9 n.natAbs d hsz (by omega) v;have kn:∀v:World,Calls Tryz.prog 178 #[.int .i64 n] v (Xc v (.int .u64 (n.natAbs:Nat))):=λv=>Xd0 n ⟨by omega,by omega⟩ v;have kd:∀v:World,Calls Tryz.prog 178 #[.int .i64 (d:Int)] v (Xc v (.int .u64 (d:Int))):=λv=>Xd0 (d:Int) ⟨by omega,by omega⟩ v;have HG:=Xa hg;clear hg;go_enter Tryz.func186,Tryz.ntmps186;go_wp2_with fail;rw[<-HW.out];refine(Xc.first (kn _)).mono ?_;rintro e w' ⟨rfl,y,rfl⟩;go_wp2_with fail
 refine(Xc.after nr (kd _)).mono ?_;rintro e w' ⟨rfl,y2,rfl⟩;go_wp2_with fail;refine(Xc.after nr (kg _)).mono ?_;rintro e w' ⟨rfl,y3,rfl⟩;go_wp2_with fail;obtain⟨p,hp⟩:∃p,p=n.natAbs/g:=⟨_,rfl⟩
 obtain⟨q,hq⟩:∃q,q=d/g:=⟨_,rfl⟩
 have ep:(n.natAbs:Int)/(g:Int)=(p:Int):=by rw[hp,Int.natCast_ediv]
 have eq:(d:Int)/(g:Int)=(q:Int):=by rw[hq,Int.natCast_ediv]
 have hU:p<=n.natAbs:=by rw[hp];exact Nat.div_le_self _ _
 have hV:q<=d:=by rw[hq];exact Nat.div_le_self _ _
 have hX:IntKind.u64.wrap (p:Int)=(p:Int):=by rw[IntKind.wrap_u64];omega
 have hY:IntKind.u64.wrap (q:Int)=(q:Int):=by rw[IntKind.wrap_u64];omega
 have hZ:decide ((d:Int)<0)=false:=by simp
 have ks:∀(v:World) (b:Bool),b=decide (n<0)->Calls Tryz.prog 193 #[.bool b,.int .u64 (p:Int),.int .u64 (q:Int)] v (Xc v (.tuple #[frV (fmk n d),.int .i64 0])):=λv b hb=>by
  subst hb;have h:=XeR (decide (n<0)) p q (by omega) (by omega) v;have e:(if decide (n<0) then-(p:Int) else(p:Int),q)=fmk n d:=by
   have hs:=XtG n d;rw[<-HG.out,<-hp,<-hq] at hs;exact hs
  rw[e] at h;exact h
 obtain⟨⟨fa,fb⟩,hf⟩:∃f,f=fmk n d:=⟨_,rfl⟩
 rw[<-hf] at ks;simp only[frV] at ks;have HF:=Xa hf;clear kg kn kd hp hq hO hf;refine XH W.heap.size 18 (by kernel_rfl) (by kernel_rfl) ?_;simp only[List.take_succ_cons,List.take_zero,List.drop_succ_cons,List.drop_zero];have hP:((n==0)=true/\(n !=0)=false/\false=decide (n<0))\/((n==0)=false/\(n !=0)=true/\decide (n<0)=decide (n<0)):=by
  by_cases h0:n=0<;>simp[h0]
 rcases hP with ⟨h1,h2,h3⟩|⟨h1,h2,h3⟩
 all_goals have H3:=Xa h3
 all_goals clear h3
 all_goals repeat (go_big_quiet_step ((go_at_call 193;exact Xc.after y3.size (ks _ _ H3.out))))
 all_goals
  refine wpQuiet_nil ?_;intro y4;have c0:=hJ ⟨y4.val,y3.below.trans y4.below⟩;have c1:=hK ⟨y4.val,y3.below.trans y4.below⟩;have cf:=hL ⟨y4.val,y3.below.trans y4.below⟩;go_wp2_with fail;have c:=Xi (XR (c:=.int .i64 fa) (d:=.int .i64 (fb:Int)) (hN.out ⟨y4.val,y3.below.trans y4.below⟩));refine bodyPost_ret (v:=.tuple #[.agg #[.int .i64 fa,.int .i64 (fb:Int)],.int .i64 0]) (by simp[results,Tryz.results186,go_sem,c.1,c.2]) rfl ⟨by rw[<-HF.out];rfl,?_⟩;exact((hM.out ⟨y4.val,y3.below.trans y4.below⟩).setCell nr _).setCell nr _
end Go.Proofs.YtdcahhbipeaggaaGreatDoor
namespace Go.Proofs.YtdcahhbipeaggaaGreatDoor
open Go.RowKit
theorem Xlg(x y c:Nat)(hc:c<=1)(w:World):
 (callFunc 232 #[.int .u64 x,.int .u64 y,.int .u64 c]).run Tryz.prog w=
   .ok (.value (.tuple #[.int .u64 (((x+y+c) % 18446744073709551616:Nat):Int),.int .u64 (((x+y+c)/18446744073709551616:Nat):Int)])) w:=by
 rw[run_callFunc_extern Tryz.func232 (by kernel_rfl) (by kernel_rfl) (by kernel_rfl) (e:=add64Entry) (by kernel_rfl),run_add64 x y c (by omega) (by omega) (by omega) (by omega)];simp only[Result.andThen];congr 5<;>omega
theorem Xkl(x y b:Nat)(hb:b<=1)(w:World):
 (callFunc 233 #[.int .u64 x,.int .u64 y,.int .u64 b]).run Tryz.prog w=
   .ok (.value (.tuple #[.int .u64 (((x+18446744073709551616-y-b) % 18446744073709551616:Nat):Int),.int .u64 ((if x<y+b then 1 else 0:Nat):Int)])) w:=by
 rw[run_callFunc_extern Tryz.func233 (by kernel_rfl) (by kernel_rfl) (by kernel_rfl) (e:=sub64Entry) (by kernel_rfl),run_sub64 x y b hb];rfl
def XkR(a b c d:Nat):Bool:=decide ((a:Int)<c)||((a:Int)==c)&&decide ((b:Int)<d)
theorem XiO(a b c d:Nat)(w:World):Calls Tryz.prog 216 #[.agg #[.int .u64 (a:Int),.int .u64 (b:Int)],.agg #[.int .u64 (c:Int),.int .u64 (d:Int)]] w (Xc w (.bool (XkR a b c d))):=by
 unfold XkR;obtain⟨A,hA⟩:∃A:Int,A=a:=⟨_,rfl⟩
 obtain⟨B,hB⟩:∃A:Int,A=b:=⟨_,rfl⟩
 obtain⟨C,hC⟩:∃A:Int,A=c:=⟨_,rfl⟩
 obtain⟨D,hD⟩:∃A:Int,A=d:=⟨_,rfl⟩
 rw[<-hA,<-hB,<-hC,<-hD];clear hA hB hC hD;by_cases h1:A<C
 ·go_enter Tryz.func216,Tryz.ntmps216;go_wp2;go_ret;exact Xc.mk (by simp[h1]) ((brf.alloc nr _).alloc (by simp) _)
 ·rw[decide_eq_false h1];cases h2:(A==C)
  all_goals
   go_enter Tryz.func216,Tryz.ntmps216;go_wp2;go_ret;exact Xc.mk (by simp) ((brf.alloc nr _).alloc (by simp) _)
theorem XkQ(m n:Nat):XkR (m/18446744073709551616) (m % 18446744073709551616) (n/18446744073709551616) (n % 18446744073709551616)=decide (m<n):=by
 rw[Bool.eq_iff_iff];simp only[XkR,Bool.or_eq_true,bae,decide_eq_true_eq,beq_iff_eq];omega
theorem XrS(n:Int)(d:Nat)(hd:0<d)(hH:d<=1152921504606846976)(hn:n.natAbs<=1152921504606846976)(w:World):Calls Tryz.prog 194 #[.int .i64 n,.int .i64 (d:Int)] w (Xc w (.int .i64 (n/(d:Int)))):=by
 have hC:¬(d:Int)=0:=by omega
 have hD:n=(d:Int)*n.tdiv d+n.tmod d:=(Int.mul_tdiv_add_tmod n d).symm;have hE:(n.tdiv (d:Int)).natAbs<=n.natAbs:=by rw[Int.natAbs_tdiv];exact Nat.div_le_self _ _
 have hI:(n.tmod (d:Int)).natAbs<d:=by rw[Int.natAbs_tmod];simp;exact Nat.mod_lt _ hd
 have hG:n/(d:Int)=if n.tmod (d:Int)<0 then n.tdiv d-1 else n.tdiv d:=by
  generalize n.tdiv (d:Int)=q at*;generalize n.tmod (d:Int)=r at*;subst hD;split
  ·rename_i h0
   rw[show(d:Int)*q+r=(d+r)+(q-1)*d by rw[Int.sub_mul,Int.one_mul,Int.mul_comm];omega,Int.add_mul_ediv_right _ _ hC,Int.ediv_eq_zero_of_lt (by omega) (by omega)];omega
  ·rename_i h0
   rw[show(d:Int)*q+r=r+q*d by rw[Int.mul_comm];omega,Int.add_mul_ediv_right _ _ hC,Int.ediv_eq_zero_of_lt (by omega) (by omega)];omega
 have hJ:IntKind.i64.wrap (n.tdiv (d:Int))=n.tdiv d:=by rw[IntKind.wrap_i64];omega
 have hK:IntKind.i64.wrap (n.tmod (d:Int))=n.tmod d:=by rw[IntKind.wrap_i64];omega
 have HB:=Xa hE;rw[hG];clear hD hE hG;by_cases h0:n.tmod (d:Int)<0
 ·rw[if_pos h0];go_enter Tryz.func194,Tryz.ntmps194;go_wp2;go_ret;exact Xc.mk (congrArg (Value.int IntKind.i64) (by have:=HB.out;unfold wrap64;omega)) brf
 ·rw[if_neg h0];go_enter Tryz.func194,Tryz.ntmps194;go_wp2;go_ret;exact Xc.mk rfl brf
def Xh7(h l:Nat):Value:=.agg #[.int .u64 (h:Int),.int .u64 (l:Int)]
theorem XsP(a b:Nat)(hC:a+b<18446744073709551616)(w:World):Calls Tryz.prog 215 #[Xax a,Xax b] w (Xc w (Xax (a+b))):=by
 have k1:∀v:World,(callFunc 232 #[.int .u64 (a:Int),.int .u64 (b:Int),.int .u64 0]).run Tryz.prog v=.ok (.value (.tuple #[.int .u64 ((a+b:Nat):Int),.int .u64 0])) v:=λv=>by
  have:=Xlg a b 0 (by omega) v
  rwa [Nat.add_zero,Nat.mod_eq_of_lt hC,Nat.div_eq_of_lt hC] at this
 have k2:∀v:World,(callFunc 232 #[.int .u64 0,.int .u64 0,.int .u64 0]).run Tryz.prog v=.ok (.value (.tuple #[.int .u64 0,.int .u64 0])) v:=λv=>Xlg 0 0 0 (by omega) v;obtain⟨m,hm⟩:∃m,m=a+b:=⟨_,rfl⟩
 rw[<-hm] at k1 ⊢;clear hm hC;simp only[Xax];go_enter Tryz.func215,Tryz.ntmps215;go_wp2_with (simp only[k1,k2])
 go_returns;exact Xc.mk rfl (((brf.alloc nr _).alloc (by simp) _).alloc (by simp;omega) _)
theorem XkL(a b:Nat)(ha:a<18446744073709551616)(hC:b<=a)(w:World):Calls Tryz.prog 217 #[Xax a,Xax b] w (Xc w (Xax (a-b))):=by
 have k1:∀v:World,(callFunc 233 #[.int .u64 (a:Int),.int .u64 (b:Int),.int .u64 0]).run Tryz.prog v=.ok (.value (.tuple #[.int .u64 ((a-b:Nat):Int),.int .u64 0])) v:=λv=>by
  have:=Xkl a b 0 (by omega) v
  rwa [Nat.sub_zero,show a+18446744073709551616-b=(a-b)+18446744073709551616 by omega,Nat.add_mod_right,Nat.mod_eq_of_lt (by omega),if_neg (by omega)] at this
 have k2:∀v:World,(callFunc 233 #[.int .u64 0,.int .u64 0,.int .u64 0]).run Tryz.prog v=.ok (.value (.tuple #[.int .u64 0,.int .u64 0])) v:=λv=>Xkl 0 0 0 (by omega) v;obtain⟨m,hm⟩:∃m,m=a-b:=⟨_,rfl⟩
 rw[<-hm] at k1 ⊢;clear hm hC ha;simp only[Xax];go_enter Tryz.func217,Tryz.ntmps217;go_wp2_with (simp only[k1,k2])
 go_returns;exact Xc.mk rfl (((brf.alloc nr _).alloc (by simp) _).alloc (by simp;omega) _)
theorem Xr5(a b:Nat)(hb:0<b)(ha:a<18446744073709551616)(w:World):Calls Tryz.prog 234 #[.int .u64 0,.int .u64 (a:Int),.int .u64 (b:Int)] w (Xc w (.tuple #[.int .u64 ((a/b:Nat):Int),.int .u64 ((a % b:Nat):Int)])):=by
 have hE:((b:Int)==0)=false:=by simp;omega
 have hG:¬(b:Int)<=0:=by omega
 have hH:¬(b:Int)=0:=by omega
 obtain⟨q,hq⟩:∃q,q=a/b:=⟨_,rfl⟩
 obtain⟨r,hr⟩:∃r,r=a % b:=⟨_,rfl⟩
 have eq:(a:Int)/(b:Int)=(q:Int):=by rw[hq,Int.natCast_ediv]
 have er:(a:Int) % (b:Int)=(r:Int):=by rw[hr,Int.natCast_emod]
 have hC:q<=a:=by rw[hq];exact Nat.div_le_self _ _
 have hI:IntKind.u64.wrap (q:Int)=(q:Int):=by rw[IntKind.wrap_u64];omega
 have hD:r<=a:=by rw[hr];exact Nat.mod_le _ _
 have hJ:IntKind.u64.wrap (r:Int)=(r:Int):=by rw[IntKind.wrap_u64];omega
 rw[<-hq,<-hr];clear hq hr hC hD;go_enter Tryz.func234,Tryz.ntmps234;go_wp2_with fail;refine Xk (Xb.refl w.heap.size w) (by kernel_rfl) (by kernel_rfl) ?_
 repeat (go_big_quiet_step (fail))
 refine wpQuiet_nil ?_;intro z;go_wp2;go_ret2;exact Xc.mk (by simp[er]) z.below
theorem Xm6(a b:Nat)(hb:0<b)(hD:b<18446744073709551616)(ha:a<18446744073709551616)(w:World):Calls Tryz.prog 218 #[Xax a,.int .u64 (b:Int)] w (Xc w (.tuple #[Xax (a/b),.int .u64 ((a % b:Nat):Int)])):=by
 have kd:=λv:World=>Xr5 a b hb ha v;have hX:¬(b:Int)=0:=by omega
 have hY:(0:Int) % (b:Int)=0:=by simp
 have hZ:(0:Int)/(b:Int)=0:=by simp
 have pA:IntKind.u64.wrap 0=0:=by decide
 obtain⟨q,hq⟩:∃q,q=a/b:=⟨_,rfl⟩
 obtain⟨r,hr⟩:∃r,r=a % b:=⟨_,rfl⟩
 rw[<-hq,<-hr] at kd ⊢;clear hq hr;simp only[Xax];obtain⟨W1,hI,hJ,hK,hL⟩:=boxed w (.cells #[.int .u64 0,.int .u64 (a:Int)] 272);obtain⟨W,hM,hQ,hD,hG⟩:=boxed W1 (.cells #[.int .u64 0,.int .u64 0] 272);have hN:Below w.heap.size w W:=hK.trans (hD.mono (by omega));have hC:=(hD.block _ (by omega)).trans hL;rw[hJ] at hG;have hO:=λy:Xb W.heap.size W=>Xi ((y.below.block _ (by omega:w.heap.size<W.heap.size)).trans hC);have hE:=λy:Xb W.heap.size W=>(y.below.block _ (by omega:w.heap.size+1<W.heap.size)).trans hG;have hR:=λy:Xb W.heap.size W=>Xi (hE y)
 have hT:=λ(y:Xb W.heap.size W) (i:Nat)=>Xe (hE y) i;have hP:=bdo hN;have hU:=Xa hE;have hV:=Xa hP;have HW:=Xa (show(w.alloc (.cells #[.int .u64 0,.int .u64 (a:Int)] 272)).alloc (.cells #[.int .u64 0,.int .u64 0] 272)=W by rw[<-hI,<-hM]);have hH:=hO (Xb.refl _ _);simp only[Xb.refl] at hH;clear hI hM hJ hQ hK hD hN hL hG hC hE hP hb ha;go_enter Tryz.func218,Tryz.ntmps218;go_upto_region 1 with fail;rw[HW.out];refine Xk (Xb.refl W.heap.size W) (by kernel_rfl) (by kernel_rfl) ?_
 repeat (go_big_quiet_step ((go_at_call 234;exact Xc.after nr (kd _))))
 refine wpQuiet_nil ?_;intro z;have pB:=hO z;have hW:=hR z;have pC:=hT z;go_wp2_with fail;have c:=Xi (XR (c:=.int .u64 0) (d:=.int .u64 (q:Int)) (hU.out z));refine bodyPost_ret (v:=.tuple #[.agg #[.int .u64 0,.int .u64 (q:Int)],.int .u64 (r:Int)]) (by simp[results,Tryz.results218,go_sem,c.1,c.2]) rfl ⟨rfl,?_⟩;exact((hV.out z).setCell (by simp) _).setCell (by simp) _
end Go.Proofs.YtdcahhbipeaggaaGreatDoor
namespace Go.Proofs.YtdcahhbipeaggaaGreatDoor
open Go.RowKit
theorem QM{P:Program}{id:Nat}{Q:Exit->Act->World->Prop}{a:Act}{B:Nat}{w:World}(y:Xb B w){l:List Oper}(n:Nat)(hm:P.follows .mixedOrders=true)(hB:Region.lexTailB .any l.toArray n=true)
 (h:wpQuiet P l.toArray (λw'=>∃x:Xb B w,w'=x.val) (λa'=>∀x:Xb B w,wpList P l.toArray Q (l.drop n) a' x.val) (l.take n) a):(Code.region id l.toArray true).wp P Q a y.val:=
 Xag (C:=λw'=>∃x:Xb B w,w'=x.val) n hm hB (Xb.exists_iff (y.below.trans ⟨rfl,rfl,rfl,Nat.le_refl _,λ_ _=>rfl⟩)) (by
  have e:(λa'=>∀w',(∃x:Xb B w,w'=x.val)->wpList P l.toArray Q (l.drop n) a' w')=(λa'=>∀x:Xb B w,wpList P l.toArray Q (l.drop n) a' x.val):=by
   funext a'
   exact propext ⟨λh x=>h _ ⟨x,rfl⟩,λh w' ⟨x,hx⟩=>hx▸h x⟩
  rw[e]
  exact h)
structure Xff(n:Int)(m:Nat):Prop where
 i64:I64 n
 eq:m=n.natAbs
theorem XhT{n:Int}{m:Nat}(h:Xff n m)(v:World):Calls Tryz.prog 178 #[.int .i64 n] v (Xc v (.int .u64 (m:Int))):=by
 rw[h.eq];exact Xd0 n h.i64 v
structure XgV(a b m:Nat):Prop where
 left:a<18446744073709551616
 right:b<18446744073709551616
 prod:m<18446744073709551616
 eq:m=a*b
theorem XlC{a b m:Nat}(h:XgV a b m)(v:World):Calls Tryz.prog 192 #[.int .u64 (a:Int),.int .u64 (b:Int)] v (Xc v (.agg #[.int .u64 0,.int .u64 (m:Int)])):=by
 have:=Xm5 a b h.left h.right (h.eq▸h.prod) v;rw[<-h.eq] at this;exact this
structure Xob(a b m:Nat):Prop where
 left:a<18446744073709551616
 right:b<18446744073709551616
 eq:m=Nat.gcd a b
theorem Xpt{a b m:Nat}(h:Xob a b m)(v:World):Calls Tryz.prog 177 #[.int .u64 (a:Int),.int .u64 (b:Int)] v (Xc v (.int .u64 (m:Int))):=by
 rw[h.eq];exact Xl9 a b h.left h.right v
structure Xgn(n:Int)(e:Nat):Prop where
 den1:1<=e
 den2:e<=1152921504606846976
 num1: -1152921504606846976<=n
 num2:n<=1152921504606846976
 gcd:Nat.gcd n.natAbs e=1
theorem Xha{n:Int}{e:Nat}(h:Xgn n e)(v:World):Calls Tryz.prog 140 #[.agg #[.int .i64 n,.int .i64 (e:Int)]] v (Xc v (.bool true)):=Xma n e h.den1 h.den2 h.num1 h.num2 h.gcd v
theorem Xp0(a:Int)(n q x:Nat)(hn:n=a.natAbs)(hx:x=n*q):a*(q:Int)=if decide (a<0)=true then-(x:Int) else(x:Int):=by
 have e:(x:Int)=(n:Int)*(q:Int):=by rw[hx,Int.natCast_mul]
 rw[e];split
 ·rename_i h
  rw[decide_eq_true_eq] at h;rw[show a= -(n:Int) by omega,Int.neg_mul]
 ·rename_i h
  rw[decide_eq_true_eq] at h;rw[show a=(n:Int) by omega]
theorem XU{w:World}{k:Nat}{o:Obj}(h:w.heap[k]? =some o)(p:Addr)(v:Value)(hC:k≠p.block):(w.setCell p v).heap[k]? =some o:=(Below.heap_setCell _ _ _ _ hC).trans h
theorem XaC(w:World)(o1 o2 o3:Obj):∃V:World,((w.alloc o1).alloc o2).alloc o3=V/\V.heap.size=w.heap.size+3/\Below w.heap.size w V/\V.heap[w.heap.size]? =some o1/\V.heap[w.heap.size+1]? =some o2/\V.heap[w.heap.size+1+1]? =some o3:=by
 obtain⟨A,hA,hE,hH,hI⟩:=boxed w o1;obtain⟨B,hB,hJ,hG,hK⟩:=boxed A o2;obtain⟨C,hC,hM,hD,hL⟩:=boxed B o3;refine⟨C,by rw[hC,hB,hA],by omega,hH.trans ((hG.mono (by omega)).trans (hD.mono (by omega))),?_,?_,?_⟩
 ·exact(hD.block _ (by omega)).trans ((hG.block _ (by omega)).trans hI)
 ·rw[<-hE];exact(hD.block _ (by omega)).trans hK
 ·rw[<-hE,<-hJ];exact hL
theorem Xmw(N1 N2:Int)(D:Nat)(hD:0<D)(sW:D<=1152921504606846976)(hN:N1.natAbs+N2.natAbs<=1152921504606846976)(w:World):
 Calls Tryz.prog 188 #[frV (fmk N1 D),frV (fmk N2 D)] w (Xc w (.tuple #[frV (fmk (N1+N2) D),.int .i64 0])):=by
 obtain⟨⟨an,ad⟩,ha⟩:∃f,f=fmk N1 D:=⟨_,rfl⟩
 obtain⟨⟨bn,bd⟩,hb⟩:∃f,f=fmk N2 D:=⟨_,rfl⟩
 obtain⟨sa1,sa2,-,sa4,sa5⟩:=ZC N1 D hD;obtain⟨sb1,sb2,-,sb4,sb5⟩:=ZC N2 D hD;rw[<-ha] at sa1 sa2 sa4 sa5;rw[<-hb] at sb1 sb2 sb4 sb5;simp only at sa1 sa2 sa4 sa5 sb1 sb2 sb4 sb5;obtain⟨g,hg⟩:∃g,g=Nat.gcd ad bd:=⟨_,rfl⟩
 obtain⟨⟨g1,g2,g3,g4,g5⟩,hJ⟩:=Xvo hD ha hb hg;rw[<-ha,<-hb];obtain⟨qa,hZ⟩:∃q,q=ad/g:=⟨_,rfl⟩
 obtain⟨qb,hI⟩:∃q,q=bd/g:=⟨_,rfl⟩
 rw[<-hZ] at g2 g5 hJ;rw[<-hI] at g3 g4 hJ;have eqa:(ad:Int)/(g:Int)=(qa:Int):=by rw[hZ,Int.natCast_ediv]
 have eqb:(bd:Int)/(g:Int)=(qb:Int):=by rw[hI,Int.natCast_ediv]
 have hL:qa<=ad:=by rw[hZ];exact Nat.div_le_self _ _
 have qD:qb<=bd:=by rw[hI];exact Nat.div_le_self _ _
 have qE:g<=ad:=by rw[hg];exact Nat.gcd_le_left _ sa1
 have sX:¬(g:Int)=0:=by omega
 have rX:IntKind.u64.wrap (qa:Int)=(qa:Int):=by rw[IntKind.wrap_u64];omega
 have rY:IntKind.u64.wrap (qb:Int)=(qb:Int):=by rw[IntKind.wrap_u64];omega
 have rZ:IntKind.u64.wrap (ad:Int)=(ad:Int):=by rw[IntKind.wrap_u64];omega
 have sA:IntKind.u64.wrap (bd:Int)=(bd:Int):=by rw[IntKind.wrap_u64];omega
 have K1:Xgn an ad:=⟨by omega,by omega,by omega,by omega,sa2⟩
 have K2:Xgn bn bd:=⟨by omega,by omega,by omega,by omega,sb2⟩
 have K3:Xob ad bd g:=⟨by omega,by omega,hg⟩
 obtain⟨na,pJ⟩:∃na,na=an.natAbs:=⟨_,rfl⟩
 obtain⟨nb,pK⟩:∃nb,nb=bn.natAbs:=⟨_,rfl⟩
 have K4:Xff an na:=⟨⟨by omega,by omega⟩,pJ⟩
 have K5:Xff bn nb:=⟨⟨by omega,by omega⟩,pK⟩
 rw[<-pJ] at g4 sa4;rw[<-pK] at g5 sb4;obtain⟨x,hx⟩:∃x,x=na*qb:=⟨_,rfl⟩
 obtain⟨y,hy⟩:∃y,y=nb*qa:=⟨_,rfl⟩
 rw[<-hx] at g4;rw[<-hy] at g5;have K6:XgV na qb x:=⟨by omega,by omega,by omega,hx⟩
 have K7:XgV nb qa y:=⟨by omega,by omega,by omega,hy⟩
 simp only[frV] at*;obtain⟨W,hW,qY,qZ,rA,rB,rC⟩:=XaC w (.cells #[.int .i64 an,.int .i64 (ad:Int)] 110 (0,0)) (.cells #[.int .i64 bn,.int .i64 (bd:Int)] 110 (0,0)) (.cells #[.int .i64 0,.int .i64 0] 110 (0,0));have hK:=λy:Xb W.heap.size W=>And.intro (Xi ((y.below.block w.heap.size (by omega)).trans rA)) (Xi ((y.below.block (w.heap.size+1) (by omega)).trans rB));have pL:=λy:Xb W.heap.size W=>(y.below.block (w.heap.size+1+1) (by omega)).trans rC;have rD:=λy:Xb W.heap.size W=>Xi (pL y);have rE:=λ(y:Xb W.heap.size W) (i:Nat)=>Xe (pL y) i
 have rF:=bdo qZ;have rG:=Xa pL;have rH:=Xa rF;have HW:=Xa hW;have sY:=Xa qY;have pA:=Xa hJ;have rI:=Xa (And.intro hx hy);have HQ:=Xa (And.intro hZ hI);have qF:=Xa (And.intro sa1 (And.intro sa4 (And.intro sa5 (And.intro sb1 (And.intro sb4 sb5)))));have HG:=Xa hg;have qG:=Xa (And.intro g1 (And.intro g2 (And.intro g3 (And.intro g4 g5))));have qH:=hK (Xb.refl _ _);simp only[Xb.refl] at qH;have HN:=Xa (And.intro pJ pK);clear pJ pK hW qY qZ rA rB rC pL rF hJ hx hy hZ hI sa1 sa2 sa4 sa5 sb1 sb2 sb4 sb5 hg g1 g2 g3 g4 g5 ha hb hL qD qE
 go_enter Tryz.func188,Tryz.ntmps188;go_upto_region 1 with fail;rw[HW.out,show W=(Xb.refl W.heap.size W).val from rfl]
 go_wp2_with (first
  |(go_at_call 140;refine(Xc.after nr (Xha (by assumption) _)).mono ?_;rintro e w' ⟨rfl,y1,rfl⟩;have sB:=hK y1)
  |(go_at_call 177;refine(Xc.after nr (Xpt (by assumption) _)).mono ?_;rintro e w' ⟨rfl,y3,rfl⟩;have sC:=hK y3))
 refine Xco y3 nr 18 7 8 (.cells #[.int .u64 0,.int .u64 0] 272) (by decide) (by kernel_rfl) (by kernel_rfl) ⟨_,rfl,rfl,rfl,λa w=>by kernel_rfl⟩ ⟨_,rfl,rfl,rfl,λa w=>by kernel_rfl⟩ ?_;apply Exists.intro;refine⟨λfl sD=> ?_,?_,?_,?_⟩
 ·simp only[List.take_succ_cons,List.take_zero]
  repeat (go_big_quiet_step (first
   |(go_at_call 178;exact Xc.afterF nr (XhT (by assumption) _))
   |(go_at_call 192;exact Xc.afterF nr (XlC (by assumption) _))))
  exact wpQuiet_nil rfl
 ·kernel_rfl
 ·rfl
 intro p q z0 hp hq pM sE sF pN hI;have p1:=Xi pN;have p2:=Xe pN;have q1:=Xi hI;have q2:=Xe hI;have qI:¬q=p:=λe=>pM e.symm;simp only[List.drop_succ_cons,List.drop_zero,ZE];go_simp;go_upto_region 5 with fail;obtain⟨V,hV⟩:∃V,V=(((z0.val.setCell ⟨p,0,none⟩ (.int .u64 0)).setCell ⟨p,1,none⟩ (.int .u64 (x:Int))).setCell ⟨q,0,none⟩ (.int .u64 0)).setCell ⟨q,1,none⟩ (.int .u64 (y:Int)):=⟨_,rfl⟩
 have pO:V.heap[p]? =some (.cells #[.int .u64 0,.int .u64 (x:Int)] 272 (0,0)):=by
  rw[hV];exact XU (XU (XR pN) _ _ pM) _ _ pM
 have pP:V.heap[q]? =some (.cells #[.int .u64 0,.int .u64 (y:Int)] 272 (0,0)):=by
  rw[hV];exact XR (XU (XU hI _ _ qI) _ _ qI)
 have pB:Below W.heap.size W V:=by
  rw[hV];exact(((z0.below.setCell hp _).setCell hp _).setCell hq _).setCell hq _
 have pQ:p<V.heap.size/\q<V.heap.size:=⟨(agS pO).1,(agS pP).1⟩
 rw[<-hV];have HV:=Xa hV;clear hV p1 p2 q1 q2 pN hI sE sF;obtain⟨U,hU,rJ,pC,qJ⟩:=boxed V (.cells #[.int .u64 0,.int .u64 0] 272);obtain⟨r,hr⟩:∃r,r=V.heap.size:=⟨_,rfl⟩
 rw[<-hr] at rJ pC qJ pQ;have pR:Below W.heap.size W U:=pB.trans (pC.mono (by rw[hr];exact pB.size));have pD:W.heap.size<=r:=by rw[hr];exact pB.size
 have rK:=hK ⟨V,pB⟩;have qK:=And.intro (Xi pO) (Xi pP);have hM:=λu:Xb U.heap.size U=>And.intro (hK ⟨u.val,pR.trans (u.below.mono pR.size)⟩) (And.intro (Xi ((u.below.block p (by omega)).trans ((pC.block p pQ.1).trans pO))) (Xi ((u.below.block q (by omega)).trans ((pC.block q pQ.2).trans pP))));have pS:=λu:Xb U.heap.size U=>(u.below.block r (by omega)).trans qJ;have hE:=λu:Xb U.heap.size U=>Xi (pS u);have hO:=λ(u:Xb U.heap.size U) (i:Nat)=>Xe (pS u) i;simp only at rK hM;have pE:=And.intro (hM (Xb.refl _ _)) (hE (Xb.refl _ _))
 simp only[Xb.refl] at pE;have HU:=Xa hU;have hQ:=Xa (And.intro pR pD);have qL:=Xa pS;have HR:=Xa hr;clear hU pC qJ pR pD hr pB pS pO pP;go_upto_block 0 with fail;rw[<-HR.out,<-HU.out];obtain⟨t,ht⟩:∃t:Int,t=an*(qb:Int)+bn*(qa:Int):=⟨_,rfl⟩
 have qM:=Xp0 an na qb x HN.out.1 rI.out.1;have qN:=Xp0 bn nb qa y HN.out.2 rI.out.2;rw[qM,qN] at ht;have HT:=Xa ht;have sZ:=And.intro qG.out.2.2.2.1 qG.out.2.2.2.2;have kp:=λv:World=>XsP x y (by omega) v;have kl:=λv:World=>XiO 0 x 0 y v;have km1:=λ(h:x<=y) (v:World)=>XkL y x (by omega) h v;have km2:=λ(h:y<=x) (v:World)=>XkL x y (by omega) h v;have rL:XkR 0 x 0 y=decide (x<y):=by simp[XkR]
 rw[rL] at kl;simp only[Xax] at kp kl km1 km2;have rM:=Xa (And.intro qM qN)
 have hC:=Xa (show ∀(u1:Xb U.heap.size U) (T:Nat),∃u:Xb W.heap.size W,(u1.val.setCell ⟨r,0,none⟩ (.int .u64 0)).setCell ⟨r,1,none⟩ (.int .u64 (T:Int))=u.val/\Hid (r<u.val.heap.size/\u.val.heap[r]? =some (.cells #[.int .u64 0,.int .u64 (T:Int)] 272 (0,0))) from λu1 T=>
  ⟨⟨_,((hQ.out.1.trans (u1.below.mono hQ.out.1.size)).setCell hQ.out.2 _).setCell hQ.out.2 _⟩,rfl,Xa ⟨(agS (XR (qL.out u1))).1,XR (qL.out u1)⟩⟩)
 clear ht qM qN rL;go_cut [9] (λa wx=>∃(neg:Bool) (T:Nat),a=.bool neg/\Hid ((T=0->t=0)/\(T≠0->(if neg then-(T:Int) else(T:Int))=t)/\T<=N1.natAbs+N2.natAbs)/\∃u:Xb W.heap.size W,wx=u.val/\Hid (r<u.val.heap.size/\u.val.heap[r]? =some (.cells #[.int .u64 0,.int .u64 (T:Int)] 272 (0,0))))
 case first=>
  have ht:=HT.out;cases s1:decide (an<0)
  all_goals cases s2:decide (bn<0)
  all_goals
   rw[s1,s2] at ht;simp only[if_true,if_false,Bool.false_eq_true] at ht;have ht:=Xa ht
  ·go_wp2_with (go_at_call 215;refine(Xc.first (kp _)).mono ?_;rintro e w' ⟨rfl,u1,rfl⟩;have hG:=hE u1;have hH:=hO u1)
   go_meet;exact⟨_,x+y,rfl,Xa ⟨λh=>by have:=ht.out;omega,λh=>by have:=ht.out;simp only[Bool.false_eq_true,if_false];omega,by omega⟩,hC.out u1 (x+y)⟩
  ·by_cases pF:x<y
   ·rw[decide_eq_true pF] at kl;have km:=km1 (by omega)
    go_wp2_with (first
     |(go_at_call 216;refine(Xc.first (kl _)).mono ?_;rintro e w' ⟨rfl,u0,rfl⟩;have hP:=hM u0)
     |(go_at_call 217;refine(Xc.after nr (km _)).mono ?_;rintro e w' ⟨rfl,u1,rfl⟩;have hG:=hE u1;have hH:=hO u1))
    go_meet;exact⟨_,y-x,rfl,Xa ⟨λh=>by have:=ht.out;omega,λh=>by have:=ht.out;simp only[if_true];omega,by omega⟩,hC.out u1 (y-x)⟩
   ·rw[decide_eq_false pF] at kl;have km:=km2 (by omega)
    go_wp2_with (first
     |(go_at_call 216;refine(Xc.first (kl _)).mono ?_;rintro e w' ⟨rfl,u0,rfl⟩;have hP:=hM u0)
     |(go_at_call 217;refine(Xc.after nr (km _)).mono ?_;rintro e w' ⟨rfl,u1,rfl⟩;have hG:=hE u1;have hH:=hO u1))
    go_meet;exact⟨_,x-y,rfl,Xa ⟨λh=>by have:=ht.out;omega,λh=>by have:=ht.out;simp only[Bool.false_eq_true,if_false];omega,by omega⟩,hC.out u1 (x-y)⟩
  ·by_cases pF:x<y
   ·rw[decide_eq_true pF] at kl;have km:=km1 (by omega)
    go_wp2_with (first
     |(go_at_call 216;refine(Xc.first (kl _)).mono ?_;rintro e w' ⟨rfl,u0,rfl⟩;have hP:=hM u0)
     |(go_at_call 217;refine(Xc.after nr (km _)).mono ?_;rintro e w' ⟨rfl,u1,rfl⟩;have hG:=hE u1;have hH:=hO u1))
    go_meet;exact⟨_,y-x,rfl,Xa ⟨λh=>by have:=ht.out;omega,λh=>by have:=ht.out;simp only[Bool.false_eq_true,if_false];omega,by omega⟩,hC.out u1 (y-x)⟩
   ·rw[decide_eq_false pF] at kl;have km:=km2 (by omega)
    go_wp2_with (first
     |(go_at_call 216;refine(Xc.first (kl _)).mono ?_;rintro e w' ⟨rfl,u0,rfl⟩;have hP:=hM u0)
     |(go_at_call 217;refine(Xc.after nr (km _)).mono ?_;rintro e w' ⟨rfl,u1,rfl⟩;have hG:=hE u1;have hH:=hO u1))
    go_meet;exact⟨_,x-y,rfl,Xa ⟨λh=>by have:=ht.out;omega,λh=>by have:=ht.out;simp only[if_true];omega,by omega⟩,hC.out u1 (x-y)⟩
  ·go_wp2_with (go_at_call 215;refine(Xc.first (kp _)).mono ?_;rintro e w' ⟨rfl,u1,rfl⟩;have hG:=hE u1;have hH:=hO u1)
   go_meet;exact⟨_,x+y,rfl,Xa ⟨λh=>by have:=ht.out;omega,λh=>by have:=ht.out;simp only[if_true];omega,by omega⟩,hC.out u1 (x+y)⟩
 case rest=>
  obtain⟨neg,T,rfl,hT,u,rfl,rN⟩:=hcut;have pD:=hQ.out.2;clear hM hE hO pE HU hQ qL HR kp kl km1 km2 hC rK qK pQ rJ HV pM qI;have sG:=Xi rN.out.2;have tA:=hK u;have sH:=rD u;have sJ:=rE u;have qO:t=an*(qb:Int)+bn*(qa:Int):=by rw[HT.out,rM.out.1,rM.out.2]
  by_cases pT:T=0
  ·have e:=(pA.out t qO).1 (hT.out.1 pT);go_wp2_with fail;have c:=Xi (XR (c:=.int .i64 0) (d:=.int .i64 1) (rG.out u));refine bodyPost_ret (v:=.tuple #[.agg #[.int .i64 0,.int .i64 1],.int .i64 0]) (by simp[results,Tryz.results188,go_sem,c.1,c.2]) rfl ⟨by rw[e];rfl,?_⟩;exact((rH.out u).setCell (by simp;omega) _).setCell (by simp;omega) _
  obtain⟨c,hc⟩:∃c,c=Nat.gcd g (T % g):=⟨_,rfl⟩
  obtain⟨c1,c2,c3,c4,c5⟩:=(pA.out t qO).2 T neg pT (hT.out.2.1 pT) c hc;have sK:=hT.out.2.2;have qE:g<=1152921504606846976:=by
   have h1:=qF.out;have:g<=ad:=by rw[HG.out];exact Nat.gcd_le_left _ h1.1
   omega
  have pU:=qG.out.1;have k1:=λv:World=>Xm6 T g pU (by omega) (by omega) v;obtain⟨rs,pV⟩:∃rs,rs=T % g:=⟨_,rfl⟩
  obtain⟨q1,rO⟩:∃q1,q1=T/g:=⟨_,rfl⟩
  rw[<-pV] at hc;rw[<-pV,<-rO] at k1;have sL:rs<g:=by rw[pV];exact Nat.mod_lt _ pU
  have k2:Xob g rs c:=⟨by omega,by omega,hc⟩
  have sM:c<=g:=by rw[hc];exact Nat.gcd_le_left _ pU
  have k3:=λv:World=>Xm6 T c c1 (by omega) (by omega) v;obtain⟨m,hm⟩:∃m,m=T/c:=⟨_,rfl⟩
  obtain⟨rm,rP⟩:∃rm,rm=T % c:=⟨_,rfl⟩
  rw[<-hm,<-rP] at k3;rw[<-hm] at c3 c4;obtain⟨qc,pW⟩:∃qc,qc=bd/c:=⟨_,rfl⟩
  rw[<-pW] at c3 c5;obtain⟨dn,qP⟩:∃dn,dn=qa*qc:=⟨_,rfl⟩
  rw[<-qP] at c3 c5;have eqc:(bd:Int)/(c:Int)=(qc:Int):=by rw[pW,Int.natCast_ediv]
  have qQ:qc<=bd:=by rw[pW];exact Nat.div_le_self _ _
  have qR:=qF.out.2.2.2.2.2;have sN:IntKind.u64.wrap (qc:Int)=(qc:Int):=by rw[IntKind.wrap_u64];omega
  have tB:¬(c:Int)=0:=by omega
  have hL:qa<=D:=Nat.le_trans (by rw[HQ.out.1];exact Nat.div_le_self _ _) qF.out.2.2.1;have k4:XgV qa qc dn:=⟨by omega,by omega,by omega,qP⟩
  have k5:=λv:World=>XeR neg m dn (by have:=Int.natAbs_add_le N1 N2;omega) (by omega) v;rw[c3] at k5;have tC:((T:Int)==0)=false:=by simp;omega
  have tD:¬(T:Int)=0:=by omega
  simp only[Xax,frV] at k1 k3 k5;obtain⟨⟨f1,f2⟩,hf⟩:∃f,f=fmk (N1+N2) D:=⟨_,rfl⟩
  rw[<-hf] at k5;have HF:=Xa hf;clear hf hc pV rO sL sM hm rP pW qP qQ qR hL c1 c2 c3 c4 c5 qO sK qE pU pT;obtain⟨sO,hE⟩:=rN.out;have rQ:=u.size;have pX:=λy:Xb u.val.heap.size u.val=>hK ⟨y.val,u.below.trans (y.below.mono rQ)⟩;have pY:=λy:Xb u.val.heap.size u.val=>(y.below.block r sO).trans hE;have pG:=λy:Xb u.val.heap.size u.val=>Xi (pY y);have rR:=λ(y:Xb u.val.heap.size u.val) (i:Nat)=>Xe (pY y) i;simp only at pX;have rS:=Xa pY;clear pY hE;go_wp2_with (go_at_call 218;refine(Xc.first (k1 _)).mono ?_;rintro e w' ⟨rfl,u1,rfl⟩)
  obtain⟨u2,rT⟩:∃u2:Xb u.val.heap.size u.val,u2.val=u1.val.alloc (.cells #[.int .u64 0,.int .u64 (q1:Int)] 272 (0,0)):=⟨⟨_,u1.below.alloc u1.size _⟩,rfl⟩
  rw[<-rT];clear rT
  go_upto_region 16 with (first
   |(go_at_call 177;refine(Xc.after nr (Xpt k2 _)).mono ?_;rintro e w' ⟨rfl,u3,rfl⟩;have qS:=pG u3)
   |(go_at_call 218;refine(Xc.after nr (k3 _)).mono ?_;rintro e w' ⟨rfl,u4,rfl⟩;have qT:=pG u4;have qU:=rR u4))
  obtain⟨X,hX⟩:∃X,X=(u4.val.setCell ⟨r,0,none⟩ (.int .u64 0)).setCell ⟨r,1,none⟩ (.int .u64 (m:Int)):=⟨_,rfl⟩
  rw[<-hX];have qV:X.heap[r]? =some (.cells #[.int .u64 0,.int .u64 (m:Int)] 272 (0,0)):=by rw[hX];exact XR (rS.out u4)
  have pZ:Below W.heap.size W X:=by rw[hX];exact(((u.below.trans (u4.below.mono rQ)).setCell pD _).setCell pD _)
  have sP:=(agS qV).1;have qW:=λy:Xb X.heap.size X=>hK ⟨y.val,pZ.trans (y.below.mono pZ.size)⟩;have rU:=λy:Xb X.heap.size X=>Xi ((y.below.block r sP).trans qV);simp only at qW;have rV:=Xa pZ;clear hX qV pZ pX pG rR rS qT qU qS k1 k2 k3;rw[show X=(Xb.refl X.heap.size X).val from rfl];refine Xcp (Xb.refl X.heap.size X) nr 11 14 (.cells #[.int .u64 0,.int .u64 0] 272) (by kernel_rfl) (by kernel_rfl) ⟨_,rfl,rfl,rfl,λa w=>by kernel_rfl⟩ ?_;apply Exists.intro;refine⟨λfl sD=> ?_,?_,?_,?_⟩
  ·simp only[List.take_succ_cons,List.take_zero]
   repeat (go_big_quiet_step ((go_at_call 192;exact Xc.afterF nr (XlC (by assumption) _))))
   exact wpQuiet_nil rfl
  ·kernel_rfl
  ·rfl
  intro d z hd tG qA;have sQ:=Xi qA;have sR:=Xe qA;have tH:¬r=d:=by omega
  have qX:=qW z;have sS:=rU z;simp only[List.drop_succ_cons,List.drop_zero,ZE];go_simp;go_upto_region 17 with fail;obtain⟨Y,hY⟩:∃Y,Y=(z.val.setCell ⟨d,0,none⟩ (.int .u64 0)).setCell ⟨d,1,none⟩ (.int .u64 (dn:Int)):=⟨_,rfl⟩
  rw[<-hY];have rW:Y.heap[d]? =some (.cells #[.int .u64 0,.int .u64 (dn:Int)] 272 (0,0)):=by rw[hY];exact XR qA
  have sT:=Xi rW;have qB:Below X.heap.size X Y:=by rw[hY];exact(z.below.setCell hd _).setCell hd _
  have pG:=rU ⟨Y,qB⟩;have pX:=qW ⟨Y,qB⟩;simp only at pG pX;have hR:Below W.heap.size W Y:=rV.out.trans (qB.mono rV.out.size);have pH:=λy:Xb Y.heap.size Y=>rD ⟨y.val,hR.trans (y.below.mono hR.size)⟩;have pI:=λy:Xb Y.heap.size Y=>rE ⟨y.val,hR.trans (y.below.mono hR.size)⟩;simp only at pH pI;have qC:=Xa hR;clear hY rW qB hR sQ sR qA qX sS;go_wp2_with (go_at_call 193;refine(Xc.first (k5 _)).mono ?_;rintro e w' ⟨rfl,y9,rfl⟩;have sU:=pH y9;have sV:=pI y9)
  have c:=Xi (XR (c:=.int .i64 f1) (d:=.int .i64 (f2:Int)) (rG.out ⟨y9.val,qC.out.trans (y9.below.mono qC.out.size)⟩));refine bodyPost_ret (v:=.tuple #[.agg #[.int .i64 f1,.int .i64 (f2:Int)],.int .i64 0]) (by simp[results,Tryz.results188,go_sem,c.1,c.2]) rfl ⟨by rw[<-HF.out],?_⟩;exact((rH.out ⟨y9.val,qC.out.trans (y9.below.mono qC.out.size)⟩).setCell (by simp;omega) _).setCell (by simp;omega) _
end Go.Proofs.YtdcahhbipeaggaaGreatDoor
