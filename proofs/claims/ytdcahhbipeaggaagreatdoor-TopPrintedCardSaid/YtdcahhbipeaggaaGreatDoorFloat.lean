/- Lemmas for TopPrinted: SrcToks, SrcMem, SrcPut9, SrcSheet, SrcWrit, Small, Float. -/
import Derived.Test.YtdcahhbipeaggaaGreatDoorDecTokens
import Derived.Lib.AtoiAll
set_option maxRecDepth 100000
set_option maxHeartbeats 16000000
namespace Go.Proofs.YtdcahhbipeaggaaGreatDoor
open Go Go.Lib
structure Yi where
 name:ByteArray
 depth:Int
 low:Int
 high:Int
 length:Int
 aG:List Int
 aM:Int
 aN:Int
 aI:Int
 most:Int
 aJ:Int
 aF:List Xu
 aE:List Xo
structure Xl where
 name:ByteArray
 aH:Int
 aA:List Yi
 aB:List Xt
structure XW where
 name:ByteArray
 after:ByteArray
 link:Int
 aL:Int
 aD:List Xw
 crew:Int
 power:Int
structure Xp where
 aC:List XW
 apart:List (ByteArray×ByteArray)
def sv:List UInt8->Int
 |45::r=> -(Xfl 0 r:Int)
 |w=>(Xfl 0 w:Int)
def Xa2(w:List UInt8):Option Int:=if w.length<=15/\itoa (sv w)=w then some (sv w) else none
theorem XcJ(n:Nat):itoa (n:Int)=decDigits n:=by rw[itoa,if_neg (by omega)];rfl
theorem XfP{n:Int}(h:n<0):itoa n=45::decDigits n.natAbs:=by rw[itoa,if_pos h]
theorem Xu9(u:Nat):(decDigits u).head? ≠some 45:=λh=>by
 cases hd:decDigits u with
 |nil=>rw[hd] at h;cases h
 |cons c t=>
  have hC:=QV u;rw[hd] at h hC;injection h with h;subst h;simp only[List.all_cons,bae] at hC;have:=XcO hC.1;simp at this
theorem XpZ(n:Int):sv (itoa n)=n:=by
 by_cases h:n<0
 ·rw[XfP h,sv,Xfk];omega
 ·obtain⟨m,rfl⟩:∃m:Nat,n=m:=⟨n.toNat,by omega⟩
  rw[XcJ];have hh:=Xu9 m;have hv:=Xfk m;cases hd:decDigits m with
  |nil=>rw[hd] at hv;rw[sv,hv];intro r h;cases h
  |cons c t=>
   rw[hd] at hh hv;rw[sv,hv];intro r h;injection h with h;subst h;exact hh rfl
theorem Xa1{w:List UInt8}{n:Int}:Xa2 w=some n↔itoa n=w/\w.length<=15:=by
 unfold Xa2;constructor
 ·intro h;split at h
  ·rename_i hx
   injection h with h;exact⟨by rw[<-h];exact hx.2,hx.1⟩
  ·cases h
 ·rintro⟨rfl,h2⟩;rw[if_pos ⟨h2,by rw[XpZ]⟩,XpZ]
def Xbt:List Xh->Int×Int
 |t::_=>(t.line,t.col)
 |[]=>(0,0)
def JU:List Xh->Int
 |t::_=>t.kind
 |[]=>0
abbrev Rd(α:Type):=Except (Int×Int) (α×List Xh)
def XP(kind:Int)(ok:List UInt8->Bool):List Xh->Rd ByteArray
 |t::r=>if t.kind=kind/\ok (bs t.text)=true then .ok (t.text,r) else .error (t.line,t.col)
 |[]=> .error (0,0)
def XT:List Xh->Rd ByteArray:=XP 1 (λ_=>true)
def QA:List Xh->Rd ByteArray:=XP 4 (λ_=>true)
def JS(neg:Bool):List Xh->Rd Int
 |t::r=>if t.kind=2 then match Xa2 (bs t.text) with
  |some n=> .ok (if neg then-n else n,r)
  |none=> .error (t.line,t.col)
  else .error (t.line,t.col)
 |[]=> .error (0,0)
def Jy(t:Xh):Bool:=decide (t.kind=3)&&decide (bs t.text=[45])
def Y2:List Xh->Rd Int
 |t::r=>if Jy t=true then JS true r else JS false (t::r)
 |[]=> .error (0,0)
def XY:Nat->List Xh->Rd (List Int)
 |0,ts=> .ok ([],ts)
 |k+1,ts=>match Y2 ts with
  |.error p=> .error p
  |.ok (n,r)=>match XY k r with
   |.error p=> .error p
   |.ok (l,r')=> .ok (n::l,r')
def Zy:Nat->List Xh->Rd (List Int)
 |0,ts=> .error (Xbt ts)
 |f+1,ts=>match Y2 ts with
  |.error p=> .error p
  |.ok (n,r)=>if JU r=4 then .ok ([n],r) else match Zy f r with
   |.error p=> .error p
   |.ok (l,r')=> .ok (n::l,r')
def Xr{α β:Type}(x:Rd α)(f:α->List Xh->Rd β):Rd β:=
 match x with
 |.error p=> .error p
 |.ok (a,r)=>f a r
def setR(ts:List Xh):Rd Yi:=
 Xr (XT ts) λnm r=>Xr (XY 9 r) λa r=>Xr (Zy r.length r) λl r=>
  .ok (⟨nm,nth a 0,nth a 1,nth a 2,nth a 3,l,nth a 4,nth a 5,nth a 6,nth a 7,nth a 8,[],[]⟩,r)
def XbE(ts:List Xh):Rd Xu:=
 Xr (XT ts) λnm r=>Xr (XY 6 r) λa r=> .ok (⟨nm,nth a 0,nth a 1,nth a 2,nth a 3,nth a 4,nth a 5⟩,r)
def JJ(ts:List Xh):Rd Xo:=
 Xr (XT ts) λnm r=>Xr (XY 2 r) λa r=> .ok (⟨nm,nth a 0,nth a 1⟩,r)
def Xby(ts:List Xh):Rd Xt:=
 Xr (XT ts) λnm r=>Xr (XY 3 r) λa r=> .ok (⟨nm,nth a 0,nth a 1,nth a 2⟩,r)
def XbB(ts:List Xh):Rd Xw:=
 Xr (XT ts) λnm r=>Xr (XY 4 r) λa r=> .ok (⟨nm,nth a 0,nth a 1,nth a 2,nth a 3⟩,r)
def JK(ts:List Xh):Rd (ByteArray×ByteArray):=
 Xr (XT ts) λa r=>Xr (XT r) λb r=> .ok ((a,b),r)
def QY:List UInt8:=[109,97,110,117,97,108]
def Jo:List UInt8:=[102,111,108,108,111,119]
def Xkh:List UInt8:=[119,105,116,104]
def Qg(w:List UInt8):Bool:=decide (w=QY)||decide (w=Jo)||decide (w=Xkh)
def QF(ts:List Xh):Rd (Int×ByteArray):=
 Xr (XP 1 Qg ts) λw r=>
  if bs w=QY then .ok ((1,⟨#[]⟩),r)
  else Xr (XT r) λa r=> .ok ((if bs w=Jo then 2 else 3,a),r)
def Xfc(ts:List Xh):Rd XW:=
 Xr (XT ts) λnm r=>Xr (QF r) λk r=>Xr (XY 3 r) λa r=>
  .ok (⟨nm,k.2,k.1,nth a 0,[],nth a 1,nth a 2⟩,r)
def Xdc:List UInt8:=[104,111,117,115,101]
def Xeh:List UInt8:=[114,111,111,102]
def Xjp:List UInt8:=[115,101,116]
def Xc0:List UInt8:=[105,116,101,109]
def Xat:List UInt8:=[98,114,105,99,107]
def Xhz:List UInt8:=[99,117,101]
def XcZ:List UInt8:=[109,111,118,101]
def Xcq:List UInt8:=[97,112,97,114,116]
def XM(w:List UInt8):Bool:=decide (w=Xeh)||decide (w=Xjp)||decide (w=Xc0)||decide (w=Xat)||decide (w=Xhz)||decide (w=XcZ)||decide (w=Xcq)
def QH{α:Type}(f:α->α):List α->List α
 |[]=>[]
 |[a]=>[f a]
 |a::b::l=>a::QH f (b::l)
def X3(h:Xl)(c:Xp)(w:List UInt8)(here:Int×Int)(r:List Xh):Rd (Xl×Xp):=
 if w=Xeh then Xr (Xby r) λx r=> .ok (({h with aB:=h.aB++[x]},c),r)
 else if w=Xjp then Xr (setR r) λx r=> .ok (({h with aA:=h.aA++[x]},c),r)
 else if w=Xc0 then(if h.aA=[] then .error here else Xr (XbE r) λx r=> .ok (({h with aA:=QH (λs=>{s with aF:=s.aF++[x]}) h.aA},c),r))
 else if w=Xat then(if h.aA=[] then .error here else Xr (JJ r) λx r=> .ok (({h with aA:=QH (λs=>{s with aE:=s.aE++[x]}) h.aA},c),r))
 else if w=Xhz then Xr (Xfc r) λx r=> .ok ((h,{c with aC:=c.aC++[x]}),r)
 else if w=XcZ then(if c.aC=[] then .error here else Xr (XbB r) λx r=> .ok ((h,{c with aC:=QH (λq=>{q with aD:=q.aD++[x]}) c.aC}),r))
 else Xr (JK r) λx r=> .ok ((h,{c with apart:=c.apart++[x]}),r)
def Ye(h:Xl)(c:Xp)(ts:List Xh):Rd (Xl×Xp):=
 Xr (XP 1 XM ts) λw r=>Xr (X3 h c (bs w) (Xbt ts) r) λx r=>Xr (QA r) λ_ r=> .ok (x,r)
def XS:List Xh->List Xh
 |t::r=>if t.kind=4 then XS r else t::r
 |[]=>[]
def Zl:Nat->Xl->Xp->List Xh->Rd (Xl×Xp)
 |0,_,_,ts=> .error (Xbt ts)
 |f+1,h,c,ts=>if JU (XS ts)=5 then .ok ((h,c),XS ts) else Xr (Ye h c (XS ts)) λx r=>Zl f x.1 x.2 r
def XaA(ts:List Xh):Rd (ByteArray×Int):=
 Xr (XP 1 (λw=>decide (w=Xdc)) (XS ts)) λ_ r=>Xr (XT r) λnm r=>Xr (Y2 r) λn r=>Xr (QA r) λ_ r=> .ok ((nm,n),r)
def Zr(ts:List Xh):Rd (Xl×Xp):=
 Xr (XaA ts) λx r=>Zl ts.length ⟨x.1,x.2,[],[]⟩ ⟨[],[]⟩ r
end Go.Proofs.YtdcahhbipeaggaaGreatDoor
namespace Go.Proofs.YtdcahhbipeaggaaGreatDoor
open Go Go.Lib
inductive Wd where
 |wd (l:List UInt8)
 |num (n:Int)
def wb:Wd->List UInt8
 |.wd l=>l
 |.num n=>itoa n
def Xc3:List (List UInt8)->List UInt8
 |[]=>[]
 |[w]=>w
 |w::v::l=>w++32::Xc3 (v::l)
def Yv(ws:List Wd):List UInt8:=Xc3 (ws.map wb)++[10]
def nums(l:List Int):List Wd:=l.map Wd.num
def XV(b:ByteArray):Wd:=.wd (bs b)
def houseLn(h:Xl):List Wd:=[.wd Xdc,XV h.name,.num h.aH]
def Q2(x:Xt):List Wd:=[.wd Xeh,XV x.name,.num x.fro,.num x.til,.num x.most]
def Xfw(s:Yi):List Wd:=.wd Xjp::XV s.name::nums ([s.depth,s.low,s.high,s.length,s.aM,s.aN,s.aI,s.most,s.aJ]++s.aG)
def QJ(x:Xu):List Wd:=.wd Xc0::XV x.name::nums [x.place,x.width,x.weight,x.hang,x.front,x.back]
def Y8(x:Xo):List Wd:=.wd Xat::XV x.name::nums [x.weight,x.count]
def Zb(s:Yi):List (List Wd):=Xfw s::(s.aF.map QJ++s.aE.map Y8)
def Xdu(q:XW):List Wd:=if q.link=1 then [.wd QY] else if q.link=2 then [.wd Jo,XV q.after] else [.wd Xkh,XV q.after]
def XeG(q:XW):List Wd:=.wd Xhz::XV q.name::(Xdu q++nums [q.aL,q.crew,q.power])
def Zx(m:Xw):List Wd:=.wd XcZ::XV m.set::nums [m.to,m.aK,m.rise,m.fall]
def Y4(q:XW):List (List Wd):=XeG q::q.aD.map Zx
def Yx(x:ByteArray×ByteArray):List Wd:=[.wd Xcq,XV x.1,XV x.2]
def YT(h:Xl)(c:Xp):List (List Wd):=
 houseLn h::(h.aB.map Q2++h.aA.flatMap Zb++c.aC.flatMap Y4++c.apart.map Yx)
def Xai(h:Xl)(c:Xp):List UInt8:=(YT h c).flatMap Yv
def XbV(line col:Int):Wd->List Xh
 |.wd l=>[⟨1,⟨l.toArray⟩,line,col⟩]
 |.num n=>if n<0 then [⟨3,⟨#[45]⟩,line,col⟩,⟨2,⟨(decDigits n.natAbs).toArray⟩,line,col+1⟩] else [⟨2,⟨(itoa n).toArray⟩,line,col⟩]
def JC(line col:Int):List Wd->List Xh
 |[]=>[⟨4,⟨#[]⟩,line,col⟩]
 |[w]=>XbV line col w++[⟨4,⟨#[]⟩,line,col+(wb w).length⟩]
 |w::v::l=>XbV line col w++JC line (col+(wb w).length+1) (v::l)
def XaO(line:Int):List (List Wd)->List Xh
 |[]=>[⟨5,⟨#[]⟩,line,1⟩]
 |l::ls=>JC line 1 l++XaO (line+1) ls
def Wd.fit:Wd->Prop
 |.wd l=>Yw l=true
 |.num _=>True
theorem Xpf{c:UInt8}(h:YX (c.toNat:Int)=true):¬(c=32\/c=9)/\c≠10/\c≠35:=by
 refine⟨λe=> ?_,λe=> ?_,λe=> ?_⟩
 ·rcases e with rfl|rfl<;>revert h<;>decide
 ·subst e;revert h;decide
 ·subst e;revert h;decide
theorem Xfi:∀(l:List UInt8) (c:UInt8) (r:List UInt8),X6 l=l.length->JR c=false->X6 (l++c::r)=l.length
 |[],c,r,_,hc=>by simp[X6,hc]
 |d::l,c,r,h,hc=>by
  unfold X6 at h;split at h
  ·rename_i hd
   simp only[List.length_cons] at h;rw[List.cons_append,X6,if_pos hd,Xfi l c r (by omega) hc];simp
  ·simp at h
theorem Xnd{l:List UInt8}{c:UInt8}{r:List UInt8}(h:Yw l=true)(hc:JR c=false):Zv (l++c::r)=.tok 1 l.length:=by
 simp only[Yw,bae,decide_eq_true_eq] at h;obtain⟨⟨⟨h1,h2⟩,h3⟩,h4⟩:=h;have hw:=Xfi l c r h4 hc;cases l with
 |nil=>simp at h1
 |cons d l=>
  simp only[List.headD_cons] at h3;obtain⟨n1,n2,n3⟩:=Xpf h3;rw[List.cons_append] at hw ⊢;rw[Zv,if_neg n1,if_neg n2,if_neg n3,if_pos h3,hw,if_pos h2]
theorem Xho:∀(l:List UInt8) (c:UInt8) (r:List UInt8),l.all ZB=true->ZB c=false->Yz (l++c::r)=l.length
 |[],c,r,_,hc=>by simp[Yz,hc]
 |d::l,c,r,h,hc=>by
  simp only[List.all_cons,bae] at h;rw[List.cons_append,Yz,if_pos h.1,Xho l c r h.2 hc];simp
theorem Xu8{c:UInt8}(h:ZB c=true):¬(c=32\/c=9)/\c≠10/\c≠35/\YX (c.toNat:Int)=false:=by
 have hb:=XcO h;refine⟨λe=> ?_,λe=> ?_,λe=> ?_,?_⟩
 ·rcases e with rfl|rfl<;>simp at hb
 ·subst e;simp at hb
 ·subst e;simp at hb
 ·simp only[YX,Bool.or_eq_false_iff,Bool.and_eq_false_iff,decide_eq_false_iff_not];omega
theorem Xeo{l:List UInt8}{c:UInt8}{r:List UInt8}(h0:0<l.length)(h:l.all ZB=true)(hc:ZB c=false)(hp:c≠46):Zv (l++c::r)=.tok 2 l.length:=by
 have hd:=Xho l c r h hc;have hn:Qd (l++c::r)=l.length:=by
  unfold Qd Jv;rw[hd,List.getElem?_append_right nr,Nat.sub_self,List.getElem?_cons_zero];have:(some c==some (46:UInt8))=false:=by simpa using hp
  rw[this,Bool.false_and,if_neg (by simp)]
 cases l with
 |nil=>simp at h0
 |cons d l=>
  simp only[List.all_cons,bae] at h;obtain⟨n1,n2,n3,n4⟩:=Xu8 h.1;rw[List.cons_append] at hn ⊢;rw[Zv,if_neg n1,if_neg n2,if_neg n3,if_neg (by rw[n4];simp),if_pos h.1,hn]
theorem XlK(r:List UInt8):Zv (45::r)=.tok 3 1:=by
 have h1:Z9 (45::r)=1:=by
  unfold Z9 Xia;have e1:[62,61].isPrefixOf ((45:UInt8)::r)=false:=by simp[List.isPrefixOf]
  have e2:[60,61].isPrefixOf ((45:UInt8)::r)=false:=by simp[List.isPrefixOf]
  have e3:[58,61].isPrefixOf ((45:UInt8)::r)=false:=by simp[List.isPrefixOf]
  rw[e1,e2,e3];rw[if_neg (by simp),if_pos (by show XuH 45=true;decide)]
 rw[Zv,h1];rfl
theorem Z6(n:Nat):0<(decDigits n).length:=by rw[decDigits_length];exact nDigits_pos n
theorem Xke{R:Xjl}{acc:List Xh}{w:Wd}{c:UInt8}{r:List UInt8}{line col:Int}(hw:w.fit)(hc:c=32\/c=10)(h:YE R acc (wb w++c::r) line col):
 YE R (acc++XbV line col w) (c::r) line (col+(wb w).length):=by
 have hC:ZB c=false:=by rcases hc with rfl|rfl<;>decide
 have hE:JR c=false:=by rcases hc with rfl|rfl<;>decide
 have hD:c≠46:=by rcases hc with rfl|rfl<;>decide
 have key:∀(acc:List Xh) (l:List UInt8) (k:Int) (col:Int),0<l.length->Zv (l++c::r)=.tok k l.length->YE R acc (l++c::r) line col->
  YE R (acc++[⟨k,⟨l.toArray⟩,line,col⟩]) (c::r) line (col+l.length):=λacc l k col h0 hk h=>by
  have h2:=h.tok (by simp;omega) hk (by omega);rw[List.take_left,List.drop_left] at h2;exact h2
 cases w with
 |wd l=>
  have hl:Yw l=true:=hw;have h0:0<l.length:=by
   simp only[Yw,bae] at hl;cases l with
   |nil=>simp at hl
   |cons _ _=>simp
  exact key acc l 1 col h0 (Xnd hl hE) h
 |num n=>
  simp only[wb,XbV] at h ⊢;by_cases hn:n<0
  ·rw[if_pos hn];rw[XfP hn] at h ⊢;have h1:=h.tok (by simp) (by rw[List.cons_append];exact XlK _) (Nat.le_refl 1);simp only[List.cons_append,List.take_succ_cons,List.take_zero,List.drop_succ_cons,List.drop_zero] at h1;have h2:=key _ (decDigits n.natAbs) 2 _ (Z6 _) (Xeo (Z6 _) (QV _) hC hD) h1;rw[List.append_assoc] at h2;rw[List.length_cons,show col+((decDigits n.natAbs).length+1:Nat)=col+(1:Nat)+(decDigits n.natAbs).length by omega];exact h2
  ·rw[if_neg hn];obtain⟨m,rfl⟩:∃m:Nat,n=m:=⟨n.toNat,by omega⟩
   rw[XcJ] at h ⊢;exact key acc (decDigits m) 2 col (Z6 _) (Xeo (Z6 _) (QV _) hC hD) h
theorem XkP{R:Xjl}:∀(ws:List Wd) (acc:List Xh) (r:List UInt8) (line col:Int),(∀w∈ws,w.fit)->YE R acc (Yv ws++r) line col->YE R (acc++JC line col ws) r (line+1) 1
 |[],acc,r,line,col,_,h=>by
  have h1:=h.lineEnd (by simp[Yv];omega) (by rfl);simpa[Yv,Xc3,JC] using h1
 |[w],acc,r,line,col,hf,h=>by
  have e:Yv [w]++r=wb w++10::r:=by simp[Yv,Xc3]
  rw[e] at h;have h1:=(Xke (hf w (by simp)) (Or.inr rfl) h).lineEnd (by simp) (by rfl);rw[JC,<-List.append_assoc];exact h1
 |w::v::l,acc,r,line,col,hf,h=>by
  have e:Yv (w::v::l)++r=wb w++32::(Yv (v::l)++r):=by simp[Yv,Xc3]
  rw[e] at h;have h1:=Xke (hf w (by simp)) (Or.inl rfl) h;have h2:=h1.blank (by simp) (by rfl) (Nat.le_refl 1);rw[List.drop_succ_cons,List.drop_zero] at h2;have h3:=XkP (v::l) _ r line _ (λw hw=>hf w (by simp[hw])) h2;rw[JC,<-List.append_assoc];exact h3
theorem Xn6{R:Xjl}:∀(ls:List (List Wd)) (acc:List Xh) (line:Int),(∀l∈ls,∀w∈l,w.fit)->YE R acc (ls.flatMap Yv) line 1->R=.good (acc++XaO line ls)
 |[],acc,line,_,h=>h.done (by simp)
 |l::ls,acc,line,hf,h=>by
  rw[List.flatMap_cons] at h;have h1:=Xn6 ls _ (line+1) (λx hx=>hf x (by simp[hx])) (XkP l acc _ line 1 (hf l (by simp)) h);rw[h1,XaO,List.append_assoc]
theorem XqC{ls:List (List Wd)}(hf:∀l∈ls,∀w∈l,w.fit):toks (ls.flatMap Yv)=.good (XaO 1 ls):=by
 have h:=Xn6 ls [] 1 hf (YE.start _);simpa using h
end Go.Proofs.YtdcahhbipeaggaaGreatDoor
namespace Go.Proofs.YtdcahhbipeaggaaGreatDoor
open Go Go.Lib
def kt(t:Xh):Int×List UInt8:=(t.kind,bs t.text)
theorem XaJ{t u:Xh}(h:kt t=kt u):t.kind=u.kind/\t.text=u.text:=by
 simp only[kt,Prod.mk.injEq] at h;exact⟨h.1,XgQ h.2⟩
theorem Xbo:∀ts:List Xh,(XS ts).length<=ts.length
 |[]=>Nat.le_refl _
 |t::r=>by
  unfold XS;split
  ·exact Nat.le_succ_of_le (Xbo r)
  ·exact Nat.le_refl _
inductive Sq:List Xh->List Xh->Prop
 |nil:Sq [] []
 |cons {t u:Xh} {ts us:List Xh} (h:kt t=kt u) (hk:t.kind≠4) (hs:Sq ts us):Sq (t::ts) (u::us)
 |line {t u:Xh} {ts us:List Xh} (ht:t.kind=4) (hu:u.kind=4) (hs:Sq (XS ts) (XS us)):Sq (t::ts) (u::us)
def SqB(r r':List Xh):Prop:=Sq (XS r) (XS r')
theorem Jj{t:Xh}{r:List Xh}(h:t.kind=4):XS (t::r)=XS r:=by rw[XS,if_pos h]
theorem YN{t:Xh}{r:List Xh}(h:t.kind≠4):XS (t::r)=t::r:=by rw[XS,if_neg h]
theorem Sq.blank{ts us:List Xh}(h:Sq ts us):SqB ts us:=by
 cases h with
 |nil=>exact Sq.nil
 |cons h hk hs=>unfold SqB;rw[YN hk,YN (by rw[<-(XaJ h).1];exact hk)];exact Sq.cons h hk hs
 |line ht hu hs=>unfold SqB;rw[Jj ht,Jj hu];exact hs
theorem Sq.kind{ts us:List Xh}(h:Sq ts us):JU ts=JU us:=by
 cases h with
 |nil=>rfl
 |cons h _ _=>exact(XaJ h).1
 |line ht hu _=>show _=_;simp only[JU];rw[ht,hu]
theorem Sq.of_map:∀(n:Nat) (ts us:List Xh),ts.length<=n->ts.map kt=us.map kt->Sq ts us
 |_,[],[],_,_=>Sq.nil
 |_,[],_::_,_,h=>by simp at h
 |_,_::_,[],_,h=>by simp at h
 |0,_::_,_::_,hn,_=>by simp at hn
 |n+1,t::ts,u::us,hn,h=>by
  simp only[List.map_cons,List.cons.injEq] at h;by_cases hk:t.kind=4
  ·refine Sq.line hk (by rw[<-(XaJ h.1).1];exact hk) ?_;have key:∀(ts us:List Xh),ts.map kt=us.map kt->(XS ts).map kt=(XS us).map kt:=by
    intro ts;induction ts with
    |nil=>intro us h;cases us with
     |nil=>rfl
     |cons _ _=>simp at h
    |cons a ts ih=>intro us h;cases us with
     |nil=>simp at h
     |cons b us=>
      have h0:=h;simp only[List.map_cons,List.cons.injEq] at h;by_cases hk:a.kind=4
      ·rw[Jj hk,Jj (by rw[<-(XaJ h.1).1];exact hk)];exact ih us h.2
      ·rw[YN hk,YN (by rw[<-(XaJ h.1).1];exact hk)];exact h0
   refine Sq.of_map n _ _ ?_ (key _ _ h.2);have:=Xbo ts;simp only[List.length_cons] at hn;omega
  ·exact Sq.cons h.1 hk (Sq.of_map n ts us (by simpa using hn) h.2)
theorem Sq.same{ts us:List Xh}(h:ts.map kt=us.map kt):Sq ts us:=Sq.of_map ts.length ts us nr h
def Sim{α:Type}(ρ:List Xh->List Xh->Prop)(x y:Rd α):Prop:=
 match x,y with
 |.ok (a,r),.ok (b,r')=>a=b/\ρ r r'
 |.error _,.error _=>True
 |_,_=>False
theorem Sim.bind{α β:Type}{ρ σ:List Xh->List Xh->Prop}{x y:Rd α}{f g:α->List Xh->Rd β}(h:Sim ρ x y)(hf:∀a r r',ρ r r'->Sim σ (f a r) (g a r')):Sim σ (Xr x f) (Xr y g):=by
 cases x with
 |error p=>cases y with
  |error q=>exact trivial
  |ok v=>exact h.elim
 |ok v=>cases y with
  |error q=>exact h.elim
  |ok v'=>
   obtain⟨a,r⟩:=v;obtain⟨b,r'⟩:=v';obtain⟨rfl,hr⟩:=h;exact hf a r r' hr
theorem Sim.ok{α:Type}{ρ:List Xh->List Xh->Prop}{a:α}{r r':List Xh}(h:ρ r r'):Sim ρ (.ok (a,r):Rd α) (.ok (a,r')):=⟨rfl,h⟩
theorem Sim.err{α:Type}{ρ:List Xh->List Xh->Prop}(p q:Int×Int):Sim ρ (.error p:Rd α) (.error q):=trivial
theorem Xfn{k:Int}{ok:List UInt8->Bool}(hk:k≠4){ts us:List Xh}(h:Sq ts us):Sim Sq (XP k ok ts) (XP k ok us):=by
 cases h with
 |nil=>exact Sim.err _ _
 | @cons t u ts us h hC hs=>
  obtain⟨h1,h2⟩:=XaJ h;simp only[XP];rw[<-h1,<-h2];split
  ·exact Sim.ok hs
  ·exact Sim.err _ _
 | @line t u ts us ht hu hs=>
  simp only[XP];rw[ht,hu,if_neg (λh=>hk h.1.symm),if_neg (λh=>hk h.1.symm)];exact Sim.err _ _
theorem Xu4{ts us:List Xh}(h:Sq ts us):Sim SqB (Xr (QA ts) λ_ r=>(.ok ((),r):Rd Unit)) (Xr (QA us) λ_ r=> .ok ((),r)):=by
 cases h with
 |nil=>exact Sim.err _ _
 | @cons t u ts us h hC hs=>
  obtain⟨h1,_⟩:=XaJ h;simp only[QA,XP];rw[if_neg (by simp[hC]),if_neg (by rw[<-h1];simp[hC])];exact Sim.err _ _
 | @line t u ts us ht hu hs=>
  simp only[QA,XP];rw[if_pos (by simp[ht]),if_pos (by simp[hu])];exact Sim.ok hs
theorem XiG{neg:Bool}{ts us:List Xh}(h:Sq ts us):Sim Sq (JS neg ts) (JS neg us):=by
 cases h with
 |nil=>exact Sim.err _ _
 | @cons t u ts us h hC hs=>
  obtain⟨h1,h2⟩:=XaJ h;simp only[JS];rw[<-h1,<-h2];split
  ·split
   ·exact Sim.ok hs
   ·exact Sim.err _ _
  ·exact Sim.err _ _
 | @line t u ts us ht hu hs=>
  simp only[JS];rw[ht,hu,if_neg (by decide),if_neg (by decide)];exact Sim.err _ _
theorem XlH{ts us:List Xh}(h:Sq ts us):Sim Sq (Y2 ts) (Y2 us):=by
 cases h with
 |nil=>exact Sim.err _ _
 | @cons t u ts us h hC hs=>
  obtain⟨h1,h2⟩:=XaJ h;have e:Jy u=Jy t:=by unfold Jy;rw[h1,h2]
  simp only[Y2];rw[e];split
  ·exact XiG hs
  ·exact XiG (Sq.cons h hC hs)
 | @line t u ts us ht hu hs=>
  have e:Jy t=false:=by unfold Jy;rw[ht];rfl
  have e':Jy u=false:=by unfold Jy;rw[hu];rfl
  simp only[Y2];rw[e,e',if_neg (by simp),if_neg (by simp)];exact XiG (Sq.line ht hu hs)
theorem Qt(k:Nat)(ts:List Xh):XY (k+1) ts=Xr (Y2 ts) λn r=>Xr (XY k r) λl r'=> .ok (n::l,r'):=by
 rw[XY];cases Y2 ts with
 |error p=>rfl
 |ok v=>obtain⟨n,r⟩:=v;simp only[Xr];cases XY k r with
  |error p=>rfl
  |ok v=>rfl
theorem Xa0:∀(k:Nat) {ts us:List Xh},Sq ts us->Sim Sq (XY k ts) (XY k us)
 |0,_,_,h=>Sim.ok h
 |k+1,_,_,h=>by
  rw[Qt,Qt];exact(XlH h).bind λn r r' hr=>(Xa0 k hr).bind λl r r' hr=>Sim.ok hr
def Zm{α:Type}(x:Rd α)(n:Nat):Prop:=∀a r,x=.ok (a,r)->r.length<n
theorem Qh{α:Type}{p:Int×Int}{n:Nat}:Zm (.error p:Rd α) n:=λa r h=>by cases h
theorem Zm.bind{α β:Type}{x:Rd α}{f:α->List Xh->Rd β}{n:Nat}(h:Zm x n)(hf:∀a r,r.length<n->Zm (f a r) n):Zm (Xr x f) n:=by
 cases x with
 |error p=>exact Qh
 |ok v=>
  obtain⟨a,r⟩:=v;exact hf a r (h a r rfl)
theorem Zm.ok{α:Type}{a:α}{r:List Xh}{n:Nat}(h:r.length<n):Zm (.ok (a,r):Rd α) n:=λb r' e=>by
 injection e with e;injection e with _ e;rw[<-e];exact h
theorem Zm.mono{α:Type}{x:Rd α}{n m:Nat}(h:Zm x n)(hm:n<=m):Zm x m:=λa r e=>Nat.lt_of_lt_of_le (h a r e) hm
theorem Yr(k:Int)(ok:List UInt8->Bool)(ts:List Xh):Zm (XP k ok ts) ts.length:=by
 cases ts with
 |nil=>exact Qh
 |cons t r=>
  simp only[XP];split
  ·exact Zm.ok (by simp)
  ·exact Qh
theorem XkH(neg:Bool)(ts:List Xh):Zm (JS neg ts) ts.length:=by
 cases ts with
 |nil=>exact Qh
 |cons t r=>
  simp only[JS];split
  ·split
   ·exact Zm.ok (by simp)
   ·exact Qh
  ·exact Qh
theorem QQ(ts:List Xh):Zm (Y2 ts) ts.length:=by
 cases ts with
 |nil=>exact Qh
 |cons t r=>
  simp only[Y2];split
  ·exact(XkH true r).mono (by simp)
  ·exact XkH false (t::r)
theorem Zt:∀(k:Nat) (ts:List Xh),Zm (XY k ts) (ts.length+1)
 |0,ts=>Zm.ok (Nat.lt_succ_self _)
 |k+1,ts=>by
  rw[Qt];exact((QQ ts).mono (Nat.le_succ _)).bind λn r hr=>((Zt k r).mono hr).bind λl r hr=>Zm.ok hr
theorem XaQ(f:Nat)(ts:List Xh):Zy (f+1) ts=Xr (Y2 ts) λn r=>if JU r=4 then .ok ([n],r) else Xr (Zy f r) λl r'=> .ok (n::l,r'):=by
 rw[Zy];cases Y2 ts with
 |error p=>rfl
 |ok v=>
  obtain⟨n,r⟩:=v;simp only[Xr];split
  ·rfl
  ·cases Zy f r with
   |error p=>rfl
   |ok v=>rfl
theorem XkK:∀(f:Nat) (ts:List Xh),Zm (Zy f ts) ts.length
 |0,ts=>Qh
 |f+1,ts=>by
  rw[XaQ];refine(QQ ts).bind λn r hr=> ?_;split
  ·exact Zm.ok hr
  ·exact((XkK f r).mono (Nat.le_of_lt hr)).bind λl r hr=>Zm.ok hr
theorem Xnj:∀(f f':Nat) {ts us:List Xh},ts.length<=f->us.length<=f'->Sq ts us->Sim Sq (Zy f ts) (Zy f' us)
 |0,f',ts,us,hf,hC,h=>by
  cases h with
  |nil=>cases f'<;>exact Sim.err _ _
  |cons _ _ _=>simp at hf
  |line _ _ _=>simp at hf
 |f+1,0,ts,us,hf,hC,h=>by
  cases h with
  |nil=>exact Sim.err _ _
  |cons _ _ _=>simp at hC
  |line _ _ _=>simp at hC
 |f+1,f'+1,ts,us,hf,hC,h=>by
  have h1:=XlH h;have l1:=QQ ts;have l2:=QQ us;rw[XaQ,XaQ];cases hx:Y2 ts with
  |error p=>cases hy:Y2 us with
   |error q=>exact trivial
   |ok v=>rw[hx,hy] at h1;exact h1.elim
  |ok v=>cases hy:Y2 us with
   |error q=>rw[hx,hy] at h1;exact h1.elim
   |ok v'=>
    obtain⟨a,r⟩:=v;obtain⟨b,r'⟩:=v';rw[hx,hy] at h1;obtain⟨rfl,hr⟩:=h1;have q1:=l1 _ _ hx;have q2:=l2 _ _ hy;simp only[Xr];rw[<-hr.kind];split
    ·exact Sim.ok hr
    ·exact(Xnj f f' (by omega) (by omega) hr).bind λl r r' hr=>Sim.ok hr
theorem QS{ts us:List Xh}(h:Sq ts us):Sim Sq (XT ts) (XT us):=Xfn (by decide) h
theorem XuA{ts us:List Xh}(h:Sq ts us):Sim Sq (setR ts) (setR us):=
 (QS h).bind λ_ _ _ h=>(Xa0 9 h).bind λ_ _ _ h=>(Xnj _ _ nr nr h).bind λ_ _ _ h=>Sim.ok h
theorem Xtf{ts us:List Xh}(h:Sq ts us):Sim Sq (XbE ts) (XbE us):=(QS h).bind λ_ _ _ h=>(Xa0 6 h).bind λ_ _ _ h=>Sim.ok h
theorem Xsd{ts us:List Xh}(h:Sq ts us):Sim Sq (JJ ts) (JJ us):=(QS h).bind λ_ _ _ h=>(Xa0 2 h).bind λ_ _ _ h=>Sim.ok h
theorem XsG{ts us:List Xh}(h:Sq ts us):Sim Sq (Xby ts) (Xby us):=(QS h).bind λ_ _ _ h=>(Xa0 3 h).bind λ_ _ _ h=>Sim.ok h
theorem XsX{ts us:List Xh}(h:Sq ts us):Sim Sq (XbB ts) (XbB us):=(QS h).bind λ_ _ _ h=>(Xa0 4 h).bind λ_ _ _ h=>Sim.ok h
theorem Xsl{ts us:List Xh}(h:Sq ts us):Sim Sq (JK ts) (JK us):=(QS h).bind λ_ _ _ h=>(QS h).bind λ_ _ _ h=>Sim.ok h
theorem Xs3{ts us:List Xh}(h:Sq ts us):Sim Sq (QF ts) (QF us):=
 (Xfn (by decide) h).bind λw _ _ h=>by
   by_cases hw:bs w=QY
   ·rw[if_pos hw,if_pos hw];exact Sim.ok h
   ·rw[if_neg hw,if_neg hw];exact(QS h).bind λ_ _ _ h=>Sim.ok h
theorem Xva{ts us:List Xh}(h:Sq ts us):Sim Sq (Xfc ts) (Xfc us):=(QS h).bind λ_ _ _ h=>(Xs3 h).bind λ_ _ _ h=>(Xa0 3 h).bind λ_ _ _ h=>Sim.ok h
theorem Xt3(h:Xl)(c:Xp)(w:List UInt8)(p q:Int×Int){ts us:List Xh}(H:Sq ts us):Sim Sq (X3 h c w p ts) (X3 h c w q us):=by
 unfold X3;split
 ·exact(XsG H).bind λ_ _ _ h=>Sim.ok h
 split
 ·exact(XuA H).bind λ_ _ _ h=>Sim.ok h
 split
 ·split
  ·exact Sim.err _ _
  ·exact(Xtf H).bind λ_ _ _ h=>Sim.ok h
 split
 ·split
  ·exact Sim.err _ _
  ·exact(Xsd H).bind λ_ _ _ h=>Sim.ok h
 split
 ·exact(Xva H).bind λ_ _ _ h=>Sim.ok h
 split
 ·split
  ·exact Sim.err _ _
  ·exact(XsX H).bind λ_ _ _ h=>Sim.ok h
 ·exact(Xsl H).bind λ_ _ _ h=>Sim.ok h
theorem XnO{α:Type}(x:α)(ts:List Xh):(Xr (QA ts) λ_ r=>(.ok (x,r):Rd α))=Xr (Xr (QA ts) λ_ r=>(.ok ((),r):Rd Unit)) λ_ r=> .ok (x,r):=by
 cases QA ts with
 |error p=>rfl
 |ok v=>rfl
theorem XnN{α:Type}(x:α){ts us:List Xh}(H:Sq ts us):Sim SqB (Xr (QA ts) λ_ r=>(.ok (x,r):Rd α)) (Xr (QA us) λ_ r=> .ok (x,r)):=by
 rw[XnO x ts,XnO x us];exact(Xu4 H).bind λ_ _ _ H=>Sim.ok H
theorem Xsx(h:Xl)(c:Xp){ts us:List Xh}(H:Sq ts us):Sim SqB (Ye h c ts) (Ye h c us):=
 (Xfn (by decide) H).bind λw _ _ H=>(Xt3 h c _ _ _ H).bind λx _ _ H=>XnN x H
theorem Xsh(h:Xl)(c:Xp)(w:List UInt8)(p:Int×Int)(ts:List Xh):Zm (X3 h c w p ts) (ts.length+1):=by
 have nm:∀ts:List Xh,Zm (XT ts) (ts.length+1):=λts=>(Yr _ _ ts).mono (Nat.le_succ _);have nn:∀{α:Type} (k:Nat) (ts:List Xh) (n:Nat) (g:List Int->α),ts.length<n->Zm (Xr (XY k ts) λa r=> .ok (g a,r)) n:=λk ts n g h=>((Zt k ts).mono h).bind λ_ _ h=>Zm.ok h;unfold X3;split
 ·exact((nm ts).bind λ_ r h=>nn 3 r _ _ h).bind λ_ _ h=>Zm.ok h
 split
 ·exact((nm ts).bind λ_ r h=>((Zt 9 r).mono h).bind λ_ r h=>((XkK _ r).mono (Nat.le_of_lt h)).bind λ_ _ h=>Zm.ok h).bind λ_ _ h=>Zm.ok h
 split
 ·split
  ·exact Qh
  ·exact((nm ts).bind λ_ r h=>nn 6 r _ _ h).bind λ_ _ h=>Zm.ok h
 split
 ·split
  ·exact Qh
  ·exact((nm ts).bind λ_ r h=>nn 2 r _ _ h).bind λ_ _ h=>Zm.ok h
 split
 ·refine((nm ts).bind λ_ r h=>Zm.bind (?_:Zm (QF r) (ts.length+1)) λ_ r h=>nn 3 r _ _ h).bind λ_ _ h=>Zm.ok h;refine((Yr _ _ r).mono (Nat.le_of_lt h)).bind λ_ r h=> ?_;split
  ·exact Zm.ok h
  ·exact((nm r).mono h).bind λ_ _ h=>Zm.ok h
 split
 ·split
  ·exact Qh
  ·exact((nm ts).bind λ_ r h=>nn 4 r _ _ h).bind λ_ _ h=>Zm.ok h
 ·exact((nm ts).bind λ_ r h=>((nm r).mono h).bind λ_ _ h=>Zm.ok h).bind λ_ _ h=>Zm.ok h
theorem Xgu(h:Xl)(c:Xp)(ts:List Xh):Zm (Ye h c ts) ts.length:=
 (Yr _ _ ts).bind λ_ r hr=>((Xsh h c _ _ r).mono hr).bind λ_ r hr=>((Yr _ _ r).mono (Nat.le_of_lt hr)).bind λ_ _ hr=>Zm.ok hr
theorem Xm0:∀(f f':Nat) (h:Xl) (c:Xp) {ts us:List Xh},ts.length<f->us.length<f'->SqB ts us->Sim SqB (Zl f h c ts) (Zl f' h c us)
 |0,_,_,_,_,_,hf,_,_=>absurd hf (Nat.not_lt_zero _)
 |_+1,0,_,_,_,_,_,hf,_=>absurd hf (Nat.not_lt_zero _)
 |f+1,f'+1,h,c,ts,us,hf,hC,H=>by
  have H':Sq (XS ts) (XS us):=H;rw[Zl,Zl,<-H'.kind];split
  ·exact Sim.ok H'.blank
  ·have h1:=Xsx h c H';have l1:=Xgu h c (XS ts);have l2:=Xgu h c (XS us);have b1:=Xbo ts;have b2:=Xbo us;cases hx:Ye h c (XS ts) with
   |error p=>cases hy:Ye h c (XS us) with
    |error q=>exact trivial
    |ok v=>rw[hx,hy] at h1;exact h1.elim
   |ok v=>cases hy:Ye h c (XS us) with
    |error q=>rw[hx,hy] at h1;exact h1.elim
    |ok v'=>
     obtain⟨a,r⟩:=v;obtain⟨b,r'⟩:=v';rw[hx,hy] at h1;obtain⟨rfl,hr⟩:=h1;have q1:=l1 _ _ hx;have q2:=l2 _ _ hy;exact Xm0 f f' a.1 a.2 (by omega) (by omega) hr
theorem XtA{ts us:List Xh}(H:SqB ts us):Sim SqB (XaA ts) (XaA us):=
 (Xfn (by decide) H).bind λ_ _ _ H=>(QS H).bind λ_ _ _ H=>(XlH H).bind λ_ _ _ H=>XnN _ H
theorem XkZ(ts:List Xh):Zm (XaA ts) ts.length:=
 ((Yr _ _ _).mono (Xbo ts)).bind λ_ r hr=>((Yr _ _ r).mono (Nat.le_of_lt hr)).bind λ_ r hr=>((QQ r).mono (Nat.le_of_lt hr)).bind λ_ r hr=>((Yr _ _ r).mono (Nat.le_of_lt hr)).bind λ_ _ hr=>Zm.ok hr
theorem XsJ{ts us:List Xh}(H:SqB ts us):Sim SqB (Zr ts) (Zr us):=by
 have h1:=XtA H;have l1:=XkZ ts;have l2:=XkZ us;unfold Zr;cases hx:XaA ts with
 |error p=>cases hy:XaA us with
  |error q=>exact trivial
  |ok v=>rw[hx,hy] at h1;exact h1.elim
 |ok v=>cases hy:XaA us with
  |error q=>rw[hx,hy] at h1;exact h1.elim
  |ok v'=>
   obtain⟨a,r⟩:=v;obtain⟨b,r'⟩:=v';rw[hx,hy] at h1;obtain⟨rfl,hr⟩:=h1;exact Xm0 _ _ _ _ (l1 _ _ hx) (l2 _ _ hy) hr
end Go.Proofs.YtdcahhbipeaggaaGreatDoor
namespace Go.Proofs.YtdcahhbipeaggaaGreatDoor
open Go Go.Lib
def tk0(k:Int)(l:List UInt8):Xh:=⟨k,⟨l.toArray⟩,0,0⟩
def cw:Wd->List Xh
 |.wd l=>[tk0 1 l]
 |.num n=>if n<0 then [tk0 3 [45],tk0 2 (decDigits n.natAbs)] else [tk0 2 (itoa n)]
def cl(ws:List Wd):List Xh:=ws.flatMap cw++[tk0 4 []]
def ca(ls:List (List Wd)):List Xh:=ls.flatMap cl++[tk0 5 []]
theorem XpU(line col:Int)(w:Wd):(XbV line col w).map kt=(cw w).map kt:=by
 cases w with
 |wd l=>rfl
 |num n=>
  simp only[XbV,cw];split<;>rfl
theorem Xqf:∀(ws:List Wd) (line col:Int),(JC line col ws).map kt=(cl ws).map kt
 |[],_,_=>rfl
 |[w],line,col=>by
  rw[JC,List.map_append,XpU];simp[cl,kt,tk0]
 |w::v::l,line,col=>by
  rw[JC,List.map_append,XpU,Xqf (v::l)];simp[cl]
theorem Xub:∀(ls:List (List Wd)) (line:Int),(XaO line ls).map kt=(ca ls).map kt
 |[],_=>rfl
 |l::ls,line=>by
  rw[XaO,List.map_append,Xqf,Xub ls];simp[ca]
theorem Xcf(l:List UInt8):bs (⟨l.toArray⟩:ByteArray)=l:=by rw[Yk]
theorem Xv2(b:ByteArray):(⟨(bs b).toArray⟩:ByteArray)=b:=XgQ (Xcf _)
theorem Jw(b:ByteArray)(r:List Xh):XT (cw (XV b)++r)=.ok (b,r):=by
 show XP 1 (λ_=>true) (tk0 1 (bs b)::r)=_;simp only[XP];rw[if_pos ⟨rfl,trivial⟩];simp only[tk0,Xv2]
theorem Xfp{ok:List UInt8->Bool}{l:List UInt8}(h:ok l=true)(r:List Xh):XP 1 ok (cw (.wd l)++r)=.ok (⟨l.toArray⟩,r):=by
 show XP 1 ok (tk0 1 l::r)=_;simp only[XP];rw[if_pos ⟨rfl,by simp only[tk0,Xcf];exact h⟩];rfl
theorem XtP(r:List Xh):QA (tk0 4 []::r)=.ok (⟨#[]⟩,r):=by
 simp only[QA,XP];rw[if_pos ⟨rfl,trivial⟩];rfl
def Yl(n:Int):Prop:=(decDigits n.natAbs).length<=15
theorem XiD(m:Nat)(h:(decDigits m).length<=15):Xa2 (decDigits m)=some (m:Int):=Xa1.2 ⟨XcJ m,h⟩
theorem XlI{n:Int}(h:Yl n)(r:List Xh):Y2 (cw (.num n)++r)=.ok (n,r):=by
 simp only[cw];by_cases hn:n<0
 ·rw[if_pos hn];show Y2 (tk0 3 [45]::tk0 2 (decDigits n.natAbs)::r)=_;simp only[Y2];rw[if_pos (by simp[Jy,tk0,Xcf])];simp only[JS];rw[if_pos (show(tk0 2 (decDigits n.natAbs)).kind=2 from rfl)];have:Xa2 (bs (tk0 2 (decDigits n.natAbs)).text)=some (n.natAbs:Int):=by rw[tk0,Xcf];exact XiD _ h
  rw[this];simp only[if_true];rw[show-((n.natAbs:Nat):Int)=n by omega]
 ·rw[if_neg hn];show Y2 (tk0 2 (itoa n)::r)=_;obtain⟨m,rfl⟩:∃m:Nat,n=m:=⟨n.toNat,by omega⟩
  simp only[Y2];rw[if_neg (by simp[Jy,tk0])];simp only[JS];rw[if_pos (show(tk0 2 (itoa (m:Int))).kind=2 from rfl)];have:Xa2 (bs (tk0 2 (itoa (m:Int))).text)=some (m:Int):=by rw[tk0,Xcf,XcJ];exact XiD _ (by simpa[Yl] using h)
  rw[this];simp
theorem Xp6:∀(l:List Int) (r:List Xh),(∀n∈l,Yl n)->XY l.length ((nums l).flatMap cw++r)=.ok (l,r)
 |[],r,_=>rfl
 |n::l,r,h=>by
  have e:(nums (n::l)).flatMap cw++r=cw (.num n)++((nums l).flatMap cw++r):=by simp[nums]
  rw[List.length_cons,Qt,e,XlI (h n (by simp))];simp only[Xr];rw[Xp6 l r (λn hn=>h n (by simp[hn]))]
theorem XvP(w:Wd):0<(cw w).length:=by
 cases w with
 |wd l=>simp[cw]
 |num n=>simp only[cw];split<;>simp
theorem Xtb(n:Int)(r:List Xh):JU (cw (.num n)++r)≠4:=by
 simp only[cw];split<;>simp[JU,tk0]
theorem Xqe:∀(l:List Int) (r:List Xh) (f:Nat),l≠[]->l.length<=f->(∀n∈l,Yl n)->Zy f ((nums l).flatMap cw++tk0 4 []::r)=.ok (l,tk0 4 []::r)
 |[],_,_,h,_,_=>absurd rfl h
 |n::l,r,0,_,hf,_=>by simp at hf
 |[n],r,f+1,_,_,h=>by
  have e:(nums [n]).flatMap cw++tk0 4 []::r=cw (.num n)++(tk0 4 []::r):=by simp[nums]
  rw[XaQ,e,XlI (h n (by simp))];simp only[Xr];rw[if_pos (show JU (tk0 4 []::r)=4 from rfl)]
 |n::m::l,r,f+1,_,hf,h=>by
  have e:(nums (n::m::l)).flatMap cw++tk0 4 []::r=cw (.num n)++((nums (m::l)).flatMap cw++tk0 4 []::r):=by simp[nums]
  have e2:(nums (m::l)).flatMap cw++tk0 4 []::r=cw (.num m)++((nums l).flatMap cw++tk0 4 []::r):=by simp[nums]
  rw[XaQ,e,XlI (h n (by simp))];simp only[Xr];rw[if_neg (by rw[e2];exact Xtb m _),Xqe (m::l) r f (by simp) (by simpa using hf) (λn hn=>h n (by simp[hn]))]
theorem XsV(l:List Int):l.length<=((nums l).flatMap cw).length:=by
 induction l with
 |nil=>simp
 |cons n l ih=>
  have e:(nums (n::l)).flatMap cw=cw (.num n)++(nums l).flatMap cw:=by simp[nums]
  rw[e,List.length_append,List.length_cons];have:=XvP (.num n);omega
structure Yi.fit(s:Yi):Prop where
 name:XF s.name=true
 nums:∀n∈[s.depth,s.low,s.high,s.length,s.aM,s.aN,s.aI,s.most,s.aJ],Yl n
 some:s.aG≠[]
 aG:∀n∈s.aG,Yl n
 aF:∀x∈s.aF,XF x.name=true/\∀n∈[x.place,x.width,x.weight,x.hang,x.front,x.back],Yl n
 aE:∀x∈s.aE,XF x.name=true/\∀n∈[x.weight,x.count],Yl n
structure Xl.fit(h:Xl):Prop where
 name:XF h.name=true
 aH:Yl h.aH
 aB:∀x∈h.aB,XF x.name=true/\∀n∈[x.fro,x.til,x.most],Yl n
 aA:∀s∈h.aA,s.fit
structure XW.fit(q:XW):Prop where
 name:XF q.name=true
 link:(q.link=1/\q.after=⟨#[]⟩)\/((q.link=2\/q.link=3)/\XF q.after=true)
 nums:∀n∈[q.aL,q.crew,q.power],Yl n
 aD:∀m∈q.aD,XF m.set=true/\∀n∈[m.to,m.aK,m.rise,m.fall],Yl n
structure Xp.fit(c:Xp):Prop where
 aC:∀q∈c.aC,q.fit
 apart:∀x∈c.apart,XF x.1=true/\XF x.2=true
theorem Xrr{h:Xl}{c:Xp}(hh:h.fit)(hc:c.fit):∀l∈YT h c,∀w∈l,w.fit:=by
 have hn:∀(l:List Int) (w:Wd),w∈nums l->w.fit:=λl w hw=>by
  obtain⟨n,_,rfl⟩:=List.mem_map.1 hw
  trivial
 intro l hl w hw;simp only[YT,List.mem_cons,List.mem_append,List.mem_map,List.mem_flatMap,Zb,Y4] at hl;rcases hl with rfl|((⟨x,hx,rfl⟩|⟨s,hs,rfl|⟨x,hx,rfl⟩|⟨x,hx,rfl⟩⟩)|⟨q,hq,rfl|⟨m,hm,rfl⟩⟩)|⟨x,hx,rfl⟩
 ·simp only[houseLn,List.mem_cons,List.not_mem_nil,or_false] at hw;rcases hw with rfl|rfl|rfl
  ·show Yw Xdc=true;decide
  ·exact hh.name
  ·trivial
 ·simp only[Q2,List.mem_cons,List.not_mem_nil,or_false] at hw;rcases hw with rfl|rfl|rfl|rfl|rfl
  ·show Yw Xeh=true;decide
  ·exact(hh.aB x hx).1
  all_goals trivial
 ·simp only[Xfw,List.mem_cons] at hw;rcases hw with rfl|rfl|hw
  ·show Yw Xjp=true;decide
  ·exact(hh.aA s hs).name
  ·exact hn _ _ hw
 ·simp only[QJ,List.mem_cons] at hw;rcases hw with rfl|rfl|hw
  ·show Yw Xc0=true;decide
  ·exact((hh.aA s hs).aF x hx).1
  ·exact hn _ _ hw
 ·simp only[Y8,List.mem_cons] at hw;rcases hw with rfl|rfl|hw
  ·show Yw Xat=true;decide
  ·exact((hh.aA s hs).aE x hx).1
  ·exact hn _ _ hw
 ·have hC:=hc.aC q hq;simp only[XeG,List.mem_cons,List.mem_append] at hw;rcases hw with rfl|rfl|hw|hw
  ·show Yw Xhz=true;decide
  ·exact hC.name
  ·unfold Xdu at hw;split at hw
   ·rw[List.mem_singleton] at hw;subst hw;show Yw QY=true;decide
   ·have h3:XF q.after=true:=by
     rename_i hD
     rcases hC.link with ⟨h,_⟩|⟨_,h⟩
     ·exact absurd h hD
     ·exact h
    split at hw
    ·simp only[List.mem_cons,List.not_mem_nil,or_false] at hw;rcases hw with rfl|rfl
     ·show Yw Jo=true;decide
     ·exact h3
    ·simp only[List.mem_cons,List.not_mem_nil,or_false] at hw;rcases hw with rfl|rfl
     ·show Yw Xkh=true;decide
     ·exact h3
  ·exact hn _ _ hw
 ·simp only[Zx,List.mem_cons] at hw;rcases hw with rfl|rfl|hw
  ·show Yw XcZ=true;decide
  ·exact((hc.aC q hq).aD m hm).1
  ·exact hn _ _ hw
 ·simp only[Yx,List.mem_cons,List.not_mem_nil,or_false] at hw;rcases hw with rfl|rfl|rfl
  ·show Yw Xcq=true;decide
  ·exact(hc.apart x hx).1
  ·exact(hc.apart x hx).2
end Go.Proofs.YtdcahhbipeaggaaGreatDoor
namespace Go.Proofs.YtdcahhbipeaggaaGreatDoor
open Go Go.Lib
theorem Q5{α:Type}(f:α->α):∀(l:List α) (a:α),QH f (l++[a])=l++[f a]
 |[],a=>rfl
 |[b],a=>rfl
 |b::c::l,a=>by
  have ih:=Q5 f (c::l) a;simp only[List.cons_append] at ih ⊢;rw[QH,ih]
theorem YM(w:Wd)(ws:List Wd)(r:List Xh):cl (w::ws)++r=cw w++(cl ws++r):=by simp[cl]
theorem XhY(l:List Int)(r:List Xh):cl (nums l)++r=(nums l).flatMap cw++tk0 4 []::r:=by simp[cl]
theorem Xcr{h:Xl}{c:Xp}{w:List UInt8}(hw:XM w=true){x:Xl×Xp}{T r:List Xh}(hb:∀p,X3 h c w p T=.ok (x,tk0 4 []::r)):Ye h c (cw (.wd w)++T)=.ok (x,r):=by
 unfold Ye;rw[Xfp hw];simp only[Xr,Xcf];rw[hb];simp only;rw[XtP]
theorem Xd5{k:Nat}{l:List Int}{r:List Xh}(hk:l.length=k)(h:∀n∈l,Yl n):XY k ((nums l).flatMap cw++r)=.ok (l,r):=by
 subst hk;exact Xp6 l r h
theorem XqI{h:Xl}{c:Xp}{x:Xt}(hx:∀n∈[x.fro,x.til,x.most],Yl n)(r:List Xh):Ye h c (cl (Q2 x)++r)=.ok (({h with aB:=h.aB++[x]},c),r):=by
 have e:Q2 x=.wd Xeh::XV x.name::nums [x.fro,x.til,x.most]:=rfl;rw[e,YM];refine Xcr (by decide) λp=> ?_;rw[YM,XhY,X3,if_pos rfl,Xby,Jw];simp only[Xr];rw[Xd5 (k:=3) (l:=[x.fro,x.til,x.most]) rfl hx];rfl
theorem Xsy{h:Xl}{c:Xp}{s:Yi}(hs:s.fit)(r:List Xh):Ye h c (cl (Xfw s)++r)=.ok (({h with aA:=h.aA++[{s with aF:=[],aE:=[]}]},c),r):=by
 rw[Xfw,YM];refine Xcr (by decide) λp=> ?_;have e:cl (nums ([s.depth,s.low,s.high,s.length,s.aM,s.aN,s.aI,s.most,s.aJ]++s.aG))++r=(nums [s.depth,s.low,s.high,s.length,s.aM,s.aN,s.aI,s.most,s.aJ]).flatMap cw++((nums s.aG).flatMap cw++tk0 4 []::r):=by
  simp[cl,nums]
 rw[YM,e,X3,if_neg (by decide),if_pos rfl,setR,Jw];simp only[Xr];rw[Xd5 (k:=9) (l:=[s.depth,s.low,s.high,s.length,s.aM,s.aN,s.aI,s.most,s.aJ]) rfl hs.nums];simp only;rw[Xqe s.aG r _ hs.some (by rw[List.length_append];have:=XsV s.aG;omega) hs.aG];rfl
theorem XqK{h:Xl}{c:Xp}{l:List Yi}{s:Yi}{x:Xu}(hl:h.aA=l++[s])(hx:∀n∈[x.place,x.width,x.weight,x.hang,x.front,x.back],Yl n)(r:List Xh):
 Ye h c (cl (QJ x)++r)=.ok (({h with aA:=l++[{s with aF:=s.aF++[x]}]},c),r):=by
 rw[QJ,YM];refine Xcr (by decide) λp=> ?_;rw[YM,XhY,X3,if_neg (by decide),if_neg (by decide),if_pos rfl,if_neg (by rw[hl];simp),XbE,Jw];simp only[Xr];rw[Xd5 (k:=6) (l:=[x.place,x.width,x.weight,x.hang,x.front,x.back]) rfl hx];simp only;rw[hl,Q5];rfl
theorem Xon{h:Xl}{c:Xp}{l:List Yi}{s:Yi}{x:Xo}(hl:h.aA=l++[s])(hx:∀n∈[x.weight,x.count],Yl n)(r:List Xh):
 Ye h c (cl (Y8 x)++r)=.ok (({h with aA:=l++[{s with aE:=s.aE++[x]}]},c),r):=by
 rw[Y8,YM];refine Xcr (by decide) λp=> ?_;rw[YM,XhY,X3,if_neg (by decide),if_neg (by decide),if_neg (by decide),if_pos rfl,if_neg (by rw[hl];simp),JJ,Jw];simp only[Xr];rw[Xd5 (k:=2) (l:=[x.weight,x.count]) rfl hx];simp only;rw[hl,Q5];rfl
theorem Xrp{q:XW}(hq:q.fit)(T:List Xh):QF ((Xdu q).flatMap cw++T)=.ok ((q.link,q.after),T):=by
 unfold Xdu;have e1:∀(w:List UInt8),([Wd.wd w].flatMap cw++T)=cw (.wd w)++T:=λw=>by simp
 have e2:∀(w:List UInt8) (b:ByteArray),([Wd.wd w,XV b].flatMap cw++T)=cw (.wd w)++(cw (XV b)++T):=λw b=>by simp
 rcases hq.link with ⟨h1,h2⟩|⟨h1,h2⟩
 ·rw[if_pos h1,e1,QF,Xfp (by decide)];simp only[Xr,Xcf];rw[if_pos trivial,h1,h2]
 ·rcases h1 with h1|h1
  ·rw[if_neg (by rw[h1];decide),if_pos h1,e2,QF,Xfp (by decide)];simp only[Xr,Xcf];rw[if_neg (by decide),Jw];simp only[if_true];rw[h1]
  ·rw[if_neg (by rw[h1];decide),if_neg (by rw[h1];decide),e2,QF,Xfp (by decide)];simp only[Xr,Xcf];rw[if_neg (by decide),Jw];simp only;rw[if_neg (by decide),h1]
theorem Xsz{h:Xl}{c:Xp}{q:XW}(hq:q.fit)(r:List Xh):Ye h c (cl (XeG q)++r)=.ok ((h,{c with aC:=c.aC++[{q with aD:=[]}]}),r):=by
 rw[XeG,YM];refine Xcr (by decide) λp=> ?_;have e:cl (Xdu q++nums [q.aL,q.crew,q.power])++r=(Xdu q).flatMap cw++((nums [q.aL,q.crew,q.power]).flatMap cw++tk0 4 []::r):=by simp[cl]
 rw[YM,e,X3,if_neg (by decide),if_neg (by decide),if_neg (by decide),if_neg (by decide),if_pos rfl,Xfc,Jw];simp only[Xr];rw[Xrp hq];simp only;rw[Xd5 (k:=3) (l:=[q.aL,q.crew,q.power]) rfl hq.nums];rfl
theorem XqJ{h:Xl}{c:Xp}{l:List XW}{q:XW}{m:Xw}(hl:c.aC=l++[q])(hm:∀n∈[m.to,m.aK,m.rise,m.fall],Yl n)(r:List Xh):
 Ye h c (cl (Zx m)++r)=.ok ((h,{c with aC:=l++[{q with aD:=q.aD++[m]}]}),r):=by
 rw[Zx,YM];refine Xcr (by decide) λp=> ?_;rw[YM,XhY,X3,if_neg (by decide),if_neg (by decide),if_neg (by decide),if_neg (by decide),if_neg (by decide),if_pos rfl,if_neg (by rw[hl];simp),XbB,Jw];simp only[Xr];rw[Xd5 (k:=4) (l:=[m.to,m.aK,m.rise,m.fall]) rfl hm];simp only;rw[hl,Q5];rfl
theorem Xoo{h:Xl}{c:Xp}{x:ByteArray×ByteArray}(r:List Xh):Ye h c (cl (Yx x)++r)=.ok ((h,{c with apart:=c.apart++[x]}),r):=by
 rw[Yx,YM];refine Xcr (by decide) λp=> ?_;have e:cl []++r=tk0 4 []::r:=rfl;rw[YM,YM,e,X3,if_neg (by decide),if_neg (by decide),if_neg (by decide),if_neg (by decide),if_neg (by decide),if_neg (by decide),JK,Jw];simp only[Xr];rw[Jw]
theorem Xqi(w:List UInt8)(ws:List Wd)(r:List Xh):JU (cl (.wd w::ws)++r)=1/\XS (cl (.wd w::ws)++r)=cl (.wd w::ws)++r:=by
 rw[YM];exact⟨rfl,YN (by simp[tk0])⟩
theorem JZ{f:Nat}{h:Xl}{c:Xp}{w:List UInt8}{L:List Wd}{r:List Xh}{x:Xl×Xp}(hL:L.head? =some (.wd w))(hs:Ye h c (cl L++r)=.ok (x,r)):Zl (f+1) h c (cl L++r)=Zl f x.1 x.2 r:=by
 cases L with
 |nil=>cases hL
 |cons v ws=>
  injection hL with hL;subst hL;obtain⟨h1,h2⟩:=Xqi w ws r;rw[Zl,h2,h1,if_neg (by decide),hs];rfl
theorem Xit:∀(l:List Xt) (f:Nat) (h:Xl) (c:Xp) (r:List Xh),(∀x∈l,∀n∈[x.fro,x.til,x.most],Yl n)->
 Zl (f+l.length) h c ((l.map Q2).flatMap cl++r)=Zl f {h with aB:=h.aB++l} c r
 |[],f,h,c,r,_=>by simp
 |x::l,f,h,c,r,hx=>by
  have e:((x::l).map Q2).flatMap cl++r=cl (Q2 x)++((l.map Q2).flatMap cl++r):=by simp
  rw[e,List.length_cons,<-Nat.add_assoc,JZ rfl (XqI (hx x (by simp)) _),Xit l f _ c r (λy hy=>hx y (by simp[hy]))];simp
theorem Xiv:∀(l:List Xu) (f:Nat) (h:Xl) (c:Xp) (ss:List Yi) (s:Yi) (r:List Xh),(∀x∈l,∀n∈[x.place,x.width,x.weight,x.hang,x.front,x.back],Yl n)->h.aA=ss++[s]->
 Zl (f+l.length) h c ((l.map QJ).flatMap cl++r)=Zl f {h with aA:=ss++[{s with aF:=s.aF++l}]} c r
 |[],f,h,c,ss,s,r,_,hs=>by simp[<-hs]
 |x::l,f,h,c,ss,s,r,hx,hs=>by
  have e:((x::l).map QJ).flatMap cl++r=cl (QJ x)++((l.map QJ).flatMap cl++r):=by simp
  rw[e,List.length_cons,<-Nat.add_assoc,JZ rfl (XqK hs (hx x (by simp)) _),Xiv l f _ c ss _ r (λy hy=>hx y (by simp[hy])) rfl];simp
theorem Xg7:∀(l:List Xo) (f:Nat) (h:Xl) (c:Xp) (ss:List Yi) (s:Yi) (r:List Xh),(∀x∈l,∀n∈[x.weight,x.count],Yl n)->h.aA=ss++[s]->
 Zl (f+l.length) h c ((l.map Y8).flatMap cl++r)=Zl f {h with aA:=ss++[{s with aE:=s.aE++l}]} c r
 |[],f,h,c,ss,s,r,_,hs=>by simp[<-hs]
 |x::l,f,h,c,ss,s,r,hx,hs=>by
  have e:((x::l).map Y8).flatMap cl++r=cl (Y8 x)++((l.map Y8).flatMap cl++r):=by simp
  rw[e,List.length_cons,<-Nat.add_assoc,JZ rfl (Xon hs (hx x (by simp)) _),Xg7 l f _ c ss _ r (λy hy=>hx y (by simp[hy])) rfl];simp
theorem Xiu:∀(l:List Xw) (f:Nat) (h:Xl) (c:Xp) (qs:List XW) (q:XW) (r:List Xh),(∀m∈l,∀n∈[m.to,m.aK,m.rise,m.fall],Yl n)->c.aC=qs++[q]->
 Zl (f+l.length) h c ((l.map Zx).flatMap cl++r)=Zl f h {c with aC:=qs++[{q with aD:=q.aD++l}]} r
 |[],f,h,c,qs,q,r,_,hs=>by simp[<-hs]
 |x::l,f,h,c,qs,q,r,hx,hs=>by
  have e:((x::l).map Zx).flatMap cl++r=cl (Zx x)++((l.map Zx).flatMap cl++r):=by simp
  rw[e,List.length_cons,<-Nat.add_assoc,JZ rfl (XqJ hs (hx x (by simp)) _),Xiu l f h _ qs _ r (λy hy=>hx y (by simp[hy])) rfl];simp
theorem Xkx:∀(l:List Yi) (f:Nat) (h:Xl) (c:Xp) (r:List Xh),(∀s∈l,s.fit)->
 Zl (f+(l.flatMap Zb).length) h c ((l.flatMap Zb).flatMap cl++r)=Zl f {h with aA:=h.aA++l} c r
 |[],f,h,c,r,_=>by simp
 |s::l,f,h,c,r,hx=>by
  have hs:=hx s (by simp);have e:((s::l).flatMap Zb).flatMap cl++r=cl (Xfw s)++((s.aF.map QJ).flatMap cl++((s.aE.map Y8).flatMap cl++((l.flatMap Zb).flatMap cl++r))):=by simp[Zb]
  have n:f+((s::l).flatMap Zb).length=f+(l.flatMap Zb).length+s.aE.length+s.aF.length+1:=by simp[Zb];omega
  rw[e,n,JZ rfl (Xsy hs _),Xiv s.aF _ _ c h.aA _ _ (λx hx=>(hs.aF x hx).2) rfl,Xg7 s.aE _ _ c h.aA _ _ (λx hx=>(hs.aE x hx).2) rfl,Xkx l f _ c r (λy hy=>hx y (by simp[hy]))];simp
theorem Xky:∀(l:List XW) (f:Nat) (h:Xl) (c:Xp) (r:List Xh),(∀q∈l,q.fit)->
 Zl (f+(l.flatMap Y4).length) h c ((l.flatMap Y4).flatMap cl++r)=Zl f h {c with aC:=c.aC++l} r
 |[],f,h,c,r,_=>by simp
 |q::l,f,h,c,r,hx=>by
  have hq:=hx q (by simp);have e:((q::l).flatMap Y4).flatMap cl++r=cl (XeG q)++((q.aD.map Zx).flatMap cl++((l.flatMap Y4).flatMap cl++r)):=by simp[Y4]
  have n:f+((q::l).flatMap Y4).length=f+(l.flatMap Y4).length+q.aD.length+1:=by simp[Y4];omega
  rw[e,n,JZ rfl (Xsz hq _),Xiu q.aD _ h _ c.aC _ _ (λx hx=>(hq.aD x hx).2) rfl,Xky l f h _ r (λy hy=>hx y (by simp[hy]))];simp
theorem Xiw:∀(l:List (ByteArray×ByteArray)) (f:Nat) (h:Xl) (c:Xp) (r:List Xh),
 Zl (f+l.length) h c ((l.map Yx).flatMap cl++r)=Zl f h {c with apart:=c.apart++l} r
 |[],f,h,c,r=>by simp
 |x::l,f,h,c,r=>by
  have e:((x::l).map Yx).flatMap cl++r=cl (Yx x)++((l.map Yx).flatMap cl++r):=by simp
  rw[e,List.length_cons,<-Nat.add_assoc,JZ rfl (Xoo _),Xiw l f h _ r];simp
theorem XrP{h:Xl}(hh:Yl h.aH)(r:List Xh):XaA (cl (houseLn h)++r)=.ok ((h.name,h.aH),r):=by
 have e0:houseLn h=.wd Xdc::XV h.name::[.num h.aH]:=rfl;have e1:cl []++r=tk0 4 []::r:=rfl;rw[XaA,e0,(Xqi _ _ r).2,YM,YM,YM,e1,Xfp (by decide)];simp only[Xr];rw[Jw];simp only;rw[XlI hh];simp only;rw[XtP]
theorem XvS(ls:List (List Wd)):ls.length<(ca ls).length:=by
 have key:∀ls:List (List Wd),ls.length<=(ls.flatMap cl).length:=λls=>by
  induction ls with
  |nil=>simp
  |cons l ls ih=>rw[List.flatMap_cons,List.length_append,List.length_cons];have:1<=(cl l).length:=(by simp[cl]);omega
 rw[ca,List.length_append];have:=key ls;simp only[List.length_singleton];omega
theorem XoI{h:Xl}{c:Xp}(hh:h.fit)(hc:c.fit):Zr (ca (YT h c))=.ok ((h,c),[tk0 5 []]):=by
 have hlen:=XvS (YT h c);have e:ca (YT h c)=cl (houseLn h)++((h.aB.map Q2).flatMap cl++((h.aA.flatMap Zb).flatMap cl++((c.aC.flatMap Y4).flatMap cl++((c.apart.map Yx).flatMap cl++[tk0 5 []])))):=by
  simp[ca,YT]
 have n:(ca (YT h c)).length=((((ca (YT h c)).length-(YT h c).length-1+1+1)+c.apart.length)+(c.aC.flatMap Y4).length+(h.aA.flatMap Zb).length)+h.aB.length:=by
  have:(YT h c).length=1+h.aB.length+(h.aA.flatMap Zb).length+(c.aC.flatMap Y4).length+c.apart.length:=by
   simp only[YT,List.length_cons,List.length_append,List.length_map];omega
  omega
 unfold Zr;rw[n]
 conv=>lhs;rw[e]
 rw[XrP hh.aH];simp only[Xr];rw[Xit _ _ _ _ _ (λx hx=>(hh.aB x hx).2),Xkx _ _ _ _ _ hh.aA,Xky _ _ _ _ _ hc.aC,Xiw,Zl];rw[if_pos (by rw[YN (by simp[tk0])];rfl),YN (by simp[tk0])];simp
theorem XqY{h:Xl}{c:Xp}(hh:h.fit)(hc:c.fit):toks (Xai h c)=.good (XaO 1 (YT h c))/\∃r,Zr (XaO 1 (YT h c))=.ok ((h,c),r):=by
 refine⟨XqC (Xrr hh hc),?_⟩;have h1:=XsJ (Sq.same (Xub (YT h c) 1)).blank;rw[XoI hh hc] at h1;cases hx:Zr (XaO 1 (YT h c)) with
 |error p=>rw[hx] at h1;exact h1.elim
 |ok v=>
  rw[hx] at h1;obtain⟨a,r⟩:=v;obtain⟨rfl,_⟩:=h1;exact⟨r,rfl⟩
end Go.Proofs.YtdcahhbipeaggaaGreatDoor
namespace Go.Proofs.YtdcahhbipeaggaaGreatDoor
open Go Go.Lib
def XC(ts:List Xh):Prop:=∃p e,ts=p++[e]/\e.kind=5
theorem XC.tail{t:Xh}{r:List Xh}(h:XC (t::r))(hk:t.kind≠5):XC r:=by
 obtain⟨p,e,h1,h2⟩:=h;cases p with
 |nil=>
  simp only[List.nil_append,List.cons.injEq] at h1;rw[h1.1] at hk;exact absurd h2 hk
 |cons a p=>
  simp only[List.cons_append,List.cons.injEq] at h1;exact⟨p,e,h1.2,h2⟩
theorem XC.ne{ts:List Xh}(h:XC ts):ts≠[]:=by
 obtain⟨p,e,h1,_⟩:=h;rw[h1];simp
def Gd{α:Type}(ts:List Xh)(x:Rd α):Prop:=
 XC ts->match x with
  |.ok (_,r)=>(∃p,ts=p++r)/\XC r
  |.error q=>∃t∈ts,q=(t.line,t.col)
theorem Gd.bind_eq{α β:Type}{ts:List Xh}{x:Rd α}{f:α->List Xh->Rd β}(h:Gd ts x)(hf:∀a r,x=.ok (a,r)->Gd r (f a r)):Gd ts (Xr x f):=by
 intro hl;have h1:=h hl;cases x with
 |error q=>exact h1
 |ok v=>
  obtain⟨a,r⟩:=v;obtain⟨⟨p,hp⟩,hr⟩:=h1;have h2:=hf a r rfl hr;simp only[Xr];cases hy:f a r with
  |error q=>
   rw[hy] at h2;obtain⟨t,ht,hq⟩:=h2;exact⟨t,by rw[hp];exact List.mem_append_right _ ht,hq⟩
  |ok v=>
   rw[hy] at h2;obtain⟨b,r'⟩:=v;obtain⟨⟨p',hC⟩,hD⟩:=h2;exact⟨⟨p++p',by rw[hp,hC,List.append_assoc]⟩,hD⟩
theorem Gd.bind{α β:Type}{ts:List Xh}{x:Rd α}{f:α->List Xh->Rd β}(h:Gd ts x)(hf:∀a r,Gd r (f a r)):Gd ts (Xr x f):=h.bind_eq λa r _=>hf a r
theorem Gd.ok{α:Type}{a:α}{r:List Xh}:Gd r (.ok (a,r)):=λh=>⟨⟨[],rfl⟩,h⟩
theorem Gd.here{α:Type}{t:Xh}{r:List Xh}:Gd (α:=α) (t::r) (.error (t.line,t.col)):=λ_=>⟨t,by simp,rfl⟩
theorem Gd.none_{α:Type}{x:Rd α}:Gd [] x:=λh=>absurd rfl h.ne
theorem Gd.next{α:Type}{a:α}{t:Xh}{r:List Xh}(hk:t.kind≠5):Gd (t::r) (.ok (a,r)):=λh=>⟨⟨[t],rfl⟩,h.tail hk⟩
theorem Xfo{k:Int}(hk:k≠5)(ok:List UInt8->Bool)(ts:List Xh):Gd ts (XP k ok ts):=by
 cases ts with
 |nil=>exact Gd.none_
 |cons t r=>
  simp only[XP];split
  ·rename_i h;exact Gd.next (by rw[h.1];exact hk)
  ·exact Gd.here
theorem Xp8(neg:Bool)(ts:List Xh):Gd ts (JS neg ts):=by
 cases ts with
 |nil=>exact Gd.none_
 |cons t r=>
  simp only[JS];split
  ·rename_i h
   split
   ·exact Gd.next (by rw[h];decide)
   ·exact Gd.here
  ·exact Gd.here
theorem Gd.cons{α:Type}{t:Xh}{r:List Xh}{x:Rd α}(hk:t.kind≠5)(h:Gd r x):Gd (t::r) x:=by
 intro hl;have h1:=h (hl.tail hk);cases x with
 |error q=>
  obtain⟨u,hu,hq⟩:=h1;exact⟨u,by simp[hu],hq⟩
 |ok v=>
  obtain⟨a,r'⟩:=v;obtain⟨⟨p,hp⟩,hr⟩:=h1;exact⟨⟨t::p,by rw[hp];rfl⟩,hr⟩
theorem XiC(ts:List Xh):Gd ts (Y2 ts):=by
 cases ts with
 |nil=>exact Gd.none_
 |cons t r=>
  simp only[Y2];split
  ·rename_i h
   simp only[Jy,bae,decide_eq_true_eq] at h;exact Gd.cons (by rw[h.1];decide) (Xp8 true r)
  ·exact Xp8 false (t::r)
theorem QZ:∀(k:Nat) (ts:List Xh),Gd ts (XY k ts)
 |0,ts=>Gd.ok
 |k+1,ts=>by
  rw[Qt];exact(XiC ts).bind λn r=>(QZ k r).bind λl r=>Gd.ok
theorem Y7(ts:List Xh):Gd ts (XT ts):=Xfo (by decide) _ ts
theorem XtO(ts:List Xh):Gd ts (QA ts):=Xfo (by decide) _ ts
theorem Xqd:∀(f:Nat) (ts:List Xh),ts.length<=f->Gd ts (Zy f ts)
 |0,ts,h=>by
  cases ts with
  |nil=>exact Gd.none_
  |cons t r=>simp at h
 |f+1,ts,h=>by
  have l1:=QQ ts;rw[XaQ];refine(XiC ts).bind_eq λn r hx=> ?_;have hC:=l1 _ _ hx;split
  ·exact Gd.ok
  ·exact(Xqd f r (by omega)).bind λl r=>Gd.ok
theorem XuR(ts:List Xh):Gd ts (QF ts):=(Xfo (by decide) _ ts).bind λw r=>by
 split
 ·exact Gd.ok
 ·exact(Y7 r).bind λ_ _=>Gd.ok
theorem Xd9(h:Xl)(c:Xp)(w:List UInt8){t:Xh}{p:Int×Int}(ts:List Xh)(hp:p=(t.line,t.col))(ht:t.kind≠5):Gd (t::ts) (X3 h c w p ts):=by
 have nn:∀{α:Type} (k:Nat) (ts:List Xh) (g:ByteArray->List Int->α),Gd ts (Xr (XT ts) λnm r=>Xr (XY k r) λa r=> .ok (g nm a,r)):=λk ts g=>(Y7 ts).bind λ_ r=>(QZ k r).bind λ_ _=>Gd.ok;have er:∀{α:Type},Gd (α:=α) (t::ts) (.error p):=by intro α;rw[hp];exact Gd.here
 unfold X3;split
 ·exact Gd.cons ht ((nn 3 ts _).bind λ_ _=>Gd.ok)
 split
 ·exact Gd.cons ht (((Y7 ts).bind λ_ r=>(QZ 9 r).bind λ_ r=>(Xqd _ r nr).bind λ_ _=>Gd.ok).bind λ_ _=>Gd.ok)
 split
 ·split
  ·exact er
  ·exact Gd.cons ht ((nn 6 ts _).bind λ_ _=>Gd.ok)
 split
 ·split
  ·exact er
  ·exact Gd.cons ht ((nn 2 ts _).bind λ_ _=>Gd.ok)
 split
 ·exact Gd.cons ht (((Y7 ts).bind λ_ r=>(XuR r).bind λ_ r=>(QZ 3 r).bind λ_ _=>Gd.ok).bind λ_ _=>Gd.ok)
 split
 ·split
  ·exact er
  ·exact Gd.cons ht ((nn 4 ts _).bind λ_ _=>Gd.ok)
 ·exact Gd.cons ht (((Y7 ts).bind λ_ r=>(Y7 r).bind λ_ _=>Gd.ok).bind λ_ _=>Gd.ok)
theorem Xuy(h:Xl)(c:Xp)(ts:List Xh):Gd ts (Ye h c ts):=by
 cases ts with
 |nil=>exact Gd.none_
 |cons t r=>
  unfold Ye;simp only[XP];split
  ·rename_i hk
   simp only[Xr];exact(Xd9 h c _ r (show Xbt (t::r)=(t.line,t.col) from rfl) (by rw[hk.1];decide)).bind λx r=>(XtO r).bind λ_ _=>Gd.ok
  ·exact Gd.here
theorem Xcg:∀ts:List Xh,XC ts->(∃p,ts=p++XS ts)/\XC (XS ts)
 |[],h=>absurd rfl h.ne
 |t::r,h=>by
  by_cases hk:t.kind=4
  ·rw[Jj hk];obtain⟨⟨p,hp⟩,h2⟩:=Xcg r (h.tail (by rw[hk];decide));exact⟨⟨t::p,by rw[List.cons_append,<-hp]⟩,h2⟩
  ·rw[YN hk];exact⟨⟨[],rfl⟩,h⟩
end Go.Proofs.YtdcahhbipeaggaaGreatDoor
namespace Go.Proofs.YtdcahhbipeaggaaGreatDoor
open Go Go.Lib
theorem XoX{c:UInt8}{l:List UInt8}{k:Int}{n:Nat}(h:Zv (c::l)=.tok k n):1<=n/\n<=(c::l).length:=by
 rw[Zv] at h;split at h
 ·cases h
 split at h
 ·cases h
 split at h
 ·cases h
 split at h
 ·rename_i hl
  split at h
  ·injection h with _ h;subst h;exact⟨XgZ hl,Xh5 _⟩
  ·cases h
 split at h
 ·rename_i hd
  injection h with _ h;subst h;exact⟨XiF hd,XkG _⟩
 split at h
 ·cases h
 ·rename_i hs
  injection h with _ h;subst h;exact⟨by omega,Xkk⟩
end Go.Proofs.YtdcahhbipeaggaaGreatDoor
namespace Go.Proofs.YtdcahhbipeaggaaGreatDoor
open Go Go.Lib
theorem Xd1:∀(f:Nat) (acc:List Xh) (l:List UInt8) (line col:Int) (L:List Xh),Xbu f acc l line col=.good L->∃M,L=acc++M/\XC M/\M.length<=l.length+1/\∀t∈M,t.text.size<=l.length
 |0,_,_,_,_,_,h=>by simp[Xbu] at h
 |f+1,acc,[],line,col,L,h=>by
  simp only[Xbu,Xjl.good.injEq] at h;exact⟨_,h.symm,⟨[],_,rfl,rfl⟩,by simp,λt ht=>by simp at ht;rw[ht];exact Nat.zero_le _⟩
 |f+1,acc,c::l,line,col,L,h=>by
  simp only[Xbu] at h;cases hn:Zv (c::l) with
  |blank n=>
   rw[hn] at h;obtain⟨M,h1,h2,h3,h4⟩:=Xd1 f _ _ _ _ _ h;have hd:((c::l).drop n).length<=(c::l).length:=by rw[List.length_drop];omega
   exact⟨M,h1,h2,by omega,λt ht=>Nat.le_trans (h4 t ht) hd⟩
  |line=>
   rw[hn] at h;obtain⟨M,h1,h2,h3,h4⟩:=Xd1 f _ _ _ _ _ h;obtain⟨p,e,hp,he⟩:=h2;refine⟨⟨4,⟨#[]⟩,line,col⟩::M,by rw[h1,List.append_assoc];rfl,⟨_::p,e,by rw[hp];rfl,he⟩,by simp;omega,λt ht=> ?_⟩;rcases List.mem_cons.1 ht with rfl|ht
   ·exact Nat.zero_le _
   ·exact Nat.le_trans (h4 t ht) (by simp)
  |tok k n=>
   rw[hn] at h;have hp:=XoX hn;obtain⟨M,h1,h2,h3,h4⟩:=Xd1 f _ _ _ _ _ h;obtain⟨p,e,hC,he⟩:=h2;have hd:((c::l).drop n).length+1<=(c::l).length:=by rw[List.length_drop];omega
   refine⟨⟨k,⟨((c::l).take n).toArray⟩,line,col⟩::M,by rw[h1,List.append_assoc];rfl,⟨_::p,e,by rw[hC];rfl,he⟩,by simp only[List.length_cons] at hd h3 ⊢;omega,λt ht=> ?_⟩;rcases List.mem_cons.1 ht with rfl|ht
   ·show((c::l).take n).toArray.size<=_;rw[List.size_toArray,List.length_take];exact Nat.min_le_right _ _
   ·exact Nat.le_trans (h4 t ht) (by omega)
  |bad=>rw[hn] at h;cases h
theorem Xid{l:List UInt8}{L:List Xh}(h:toks l=.good L):XC L/\L.length<=l.length+1/\∀t∈L,t.text.size<=l.length:=by
 obtain⟨M,h1,h2⟩:=Xd1 _ _ _ _ _ _ h;rw[List.nil_append] at h1;rw[h1];exact h2
open Go Go.RowKit in
theorem bxmv(w:World)(x:Xw):∃W:World,W=w.alloc (.cells #[.string x.set,.int .i64 x.to,.int .i64 x.aK,.int .i64 x.rise,.int .i64 x.fall] 72)/\W.heap.size=w.heap.size+1/\Below w.heap.size w W/\W.heap[w.heap.size]? =some (.cells #[.string x.set,.int .i64 x.to,.int .i64 x.aK,.int .i64 x.rise,.int .i64 x.fall] 72):=boxed w _
end Go.Proofs.YtdcahhbipeaggaaGreatDoor
namespace Go.Proofs.YtdcahhbipeaggaaGreatDoor
open Go.RowKit
theorem XX{w wr:World}{g i:Nat}{v:Value}(h:w.grownBy wr (some g)):w.grownBy (wr.setCell ⟨g,i,none⟩ v) (some g):=
 ⟨h.os,h.tape,h.output,by simp[World.setCell];exact h.size,λk hk hC=>(Below.heap_setCell _ _ _ _ (λe=>hC (by simp only at e;rw[e]))).trans (h.block k hk hC)⟩
theorem Yj{w wr y:World}{g:Option Nat}(h:w.grownBy wr g)(hb:Below wr.heap.size wr y):w.grownBy y g:=
 ⟨hb.os.trans h.os,hb.tape.trans h.tape,hb.output.trans h.output,Nat.le_trans h.size hb.size,λk hk hC=>(hb.block k (Nat.lt_of_lt_of_le hk h.size)).trans (h.block k hk hC)⟩
theorem XG{w x y:World}{g:Option Nat}(h:w.grownBy x g)(h2:x.grownBy y g):w.grownBy y g:=
 ⟨h2.os.trans h.os,h2.tape.trans h.tape,h2.output.trans h.output,Nat.le_trans h.size h2.size,λk hk hC=>(h2.block k (Nat.lt_of_lt_of_le hk h.size) hC).trans (h.block k hk hC)⟩
theorem XD{w y:World}{g:Option Nat}(hb:Below w.heap.size w y):w.grownBy y g:=Yj (World.grownBy.refl w g) hb
structure Rd0(rb:Nat)(tv:Value)(L:List Xh)(n:Nat)(rest:List Value)(x:World):Prop where
 box:x.heap[rb]? =some (.cells (tv::.int .i64 n::rest).toArray 96 (0,0))
 toks:∃tb cap,tv=.slice (some ⟨tb,0,none⟩) L.length cap/\L.length<=cap/\cap<=maxLen/\tb≠rb/\tb<x.heap.size/\∀i t,L[i]? =some t->∀j u,(Xh.cells t)[j]? =some u->x.cell? ⟨tb,i*4+j,none⟩=some u
section
variable {rb:Nat} {tv:Value} {L:List Xh} {n:Nat} {rest:List Value} {x y:World}
theorem Rd0.lt(h:Rd0 rb tv L n rest x):rb<x.heap.size:=(agS h.box).1
theorem Rd0.grown(h:Rd0 rb tv L n rest x){m:Nat}{rest':List Value}(hg:x.grownBy y (some rb))(hb:y.heap[rb]? =some (.cells (tv::.int .i64 m::rest').toArray 96 (0,0))):Rd0 rb tv L m rest' y:=by
 obtain⟨tb,cap,h1,h2,h3,h4,h5,h6⟩:=h.toks;exact⟨hb,tb,cap,h1,h2,h3,h4,Nat.lt_of_lt_of_le h5 hg.size,λi t hi j u hu=>(World.cell?_of_block (a:=⟨tb,i*4+j,none⟩) (hg.block tb h5 (λe=>h4 (by injection e)))).trans (h6 i t hi j u hu)⟩
theorem Rd0.more(h:Rd0 rb tv L n rest x)(hb:Below x.heap.size x y):Rd0 rb tv L n rest y:=h.grown (XD hb) ((hb.block rb h.lt).trans h.box)
theorem Rd0.cell0(h:Rd0 rb tv L n rest x):x.cell? ⟨rb,0,none⟩=some tv:=(Joins.cell_of_block h.box 0).trans rfl
theorem Rd0.cell1(h:Rd0 rb tv L n rest x):x.cell? ⟨rb,1,none⟩=some (.int .i64 n):=(Joins.cell_of_block h.box 1).trans rfl
theorem Rd0.free(h:Rd0 rb tv L n rest x)(i:Nat):x.frozen? ⟨rb,i,none⟩=false:=Xe h.box i
theorem Rd0.setAt(h:Rd0 rb tv L n rest x)(m:Nat):Rd0 rb tv L m rest (x.setCell ⟨rb,1,none⟩ (.int .i64 m)):=by
 refine h.grown (XX (World.grownBy.refl x _)) ?_;rw[Xx h.box];simp
theorem Rd0.tok(h:Rd0 rb tv L n rest x){t:Xh}(ht:L[n]? =some t):∃tb cap,tv=.slice (some ⟨tb,0,none⟩) L.length cap/\L.length<=cap/\cap<=maxLen/\tb<x.heap.size/\
 ∀z:Xb x.heap.size x,z.val.cell? ⟨tb,n*4,none⟩=some (.int .i64 t.kind)/\z.val.cell? ⟨tb,n*4+1,none⟩=some (.string t.text)/\z.val.cell? ⟨tb,n*4+2,none⟩=some (.int .i64 t.line)/\z.val.cell? ⟨tb,n*4+3,none⟩=some (.int .i64 t.col):=by
 obtain⟨tb,cap,h1,h2,h3,h4,h5,h6⟩:=h.toks;exact⟨tb,cap,h1,h2,h3,h5,λz=>⟨z.cell (h6 n t ht 0 _ rfl) h5,z.cell (h6 n t ht 1 _ rfl) h5,z.cell (h6 n t ht 2 _ rfl) h5,z.cell (h6 n t ht 3 _ rfl) h5⟩⟩
end
theorem XtE{z:World}{g:Nat}{a b c d:Value}{t:TypeId}(h:z.heap[g]? =some (.cells #[a,b,c,d] t (0,0)))(p q r s:Value):
 (z.cell? ⟨g,0,none⟩=some a/\z.cell? ⟨g,1,none⟩=some b/\z.cell? ⟨g,2,none⟩=some c/\z.cell? ⟨g,3,none⟩=some d)/\(∀i,z.frozen? ⟨g,i,none⟩=false)/\
 ((z.setCell ⟨g,0,none⟩ p).cell? ⟨g,1,none⟩=some b/\∀i,(z.setCell ⟨g,0,none⟩ p).frozen? ⟨g,i,none⟩=false)/\
 (((z.setCell ⟨g,0,none⟩ p).setCell ⟨g,1,none⟩ q).cell? ⟨g,2,none⟩=some c/\∀i,((z.setCell ⟨g,0,none⟩ p).setCell ⟨g,1,none⟩ q).frozen? ⟨g,i,none⟩=false)/\
 ((((z.setCell ⟨g,0,none⟩ p).setCell ⟨g,1,none⟩ q).setCell ⟨g,2,none⟩ r).cell? ⟨g,3,none⟩=some d/\∀i,(((z.setCell ⟨g,0,none⟩ p).setCell ⟨g,1,none⟩ q).setCell ⟨g,2,none⟩ r).frozen? ⟨g,i,none⟩=false)/\
 (((((z.setCell ⟨g,0,none⟩ p).setCell ⟨g,1,none⟩ q).setCell ⟨g,2,none⟩ r).setCell ⟨g,3,none⟩ s).cell? ⟨g,0,none⟩=some p/\((((z.setCell ⟨g,0,none⟩ p).setCell ⟨g,1,none⟩ q).setCell ⟨g,2,none⟩ r).setCell ⟨g,3,none⟩ s).cell? ⟨g,1,none⟩=some q/\
  ((((z.setCell ⟨g,0,none⟩ p).setCell ⟨g,1,none⟩ q).setCell ⟨g,2,none⟩ r).setCell ⟨g,3,none⟩ s).cell? ⟨g,2,none⟩=some r/\((((z.setCell ⟨g,0,none⟩ p).setCell ⟨g,1,none⟩ q).setCell ⟨g,2,none⟩ r).setCell ⟨g,3,none⟩ s).cell? ⟨g,3,none⟩=some s):=by
 have h1:=Xx h (i:=0) p;have h2:=Xx h1 (i:=1) q;have h3:=Xx h2 (i:=2) r;have h4:=Xx h3 (i:=3) s
 exact⟨⟨(Joins.cell_of_block h 0).trans rfl,(Joins.cell_of_block h 1).trans rfl,(Joins.cell_of_block h 2).trans rfl,(Joins.cell_of_block h 3).trans rfl⟩,λi=>Xe h i,
  ⟨(Joins.cell_of_block h1 1).trans rfl,λi=>Xe h1 i⟩,⟨(Joins.cell_of_block h2 2).trans rfl,λi=>Xe h2 i⟩,⟨(Joins.cell_of_block h3 3).trans rfl,λi=>Xe h3 i⟩,
  ⟨(Joins.cell_of_block h4 0).trans rfl,(Joins.cell_of_block h4 1).trans rfl,(Joins.cell_of_block h4 2).trans rfl,(Joins.cell_of_block h4 3).trans rfl⟩⟩
def Xh.val(t:Xh):Value:=.agg #[.int .i64 t.kind,.string t.text,.int .i64 t.line,.int .i64 t.col]
theorem XcD{rb:Nat}{tv:Value}{L:List Xh}{n:Nat}{rest:List Value}{u:World}(h:Rd0 rb tv L n rest u){t:Xh}(ht:L[n]? =some t):
 Calls Tryz.prog 84 #[.pointer (some ⟨rb,0,none⟩)] u (Xc u t.val):=by
 obtain⟨W,hW,hE,hC,hG⟩:=boxed u (.cells #[.int .i64 0,.string ⟨#[]⟩,.int .i64 0,.int .i64 0] 174);have hn:=(lgS ht).1;obtain⟨tb,cap,rfl,hK,hH,hL,hI⟩:=(h.more hC).tok ht;unfold maxLen at hH;have hM:=(h.more hC).lt;have c0:=(h.more hC).cell0;have c1:=(h.more hC).cell1;have hN:(0:Int)<=(n:Int):=by omega
 have hO:(n:Int)<(L.length:Int):=by omega
 have hD:=hI (Xb.refl _ _);simp only[Xb.refl] at hD;have HW:=Xa hW;have HB:=Xa hC;have hP:u.heap.size<W.heap.size:=by omega
 have hJ:=XtE hG (.int .i64 t.kind) (.string t.text) (.int .i64 t.line) (.int .i64 t.col);have HF:=Xa (((((hC.setCell (p:=⟨u.heap.size,0,none⟩) nr (.int .i64 t.kind)).setCell (p:=⟨u.heap.size,1,none⟩) nr (.string t.text)).setCell (p:=⟨u.heap.size,2,none⟩) nr (.int .i64 t.line)).setCell (p:=⟨u.heap.size,3,none⟩) nr (.int .i64 t.col)));clear hW hE ht h hn;go_enter Tryz.func84,Tryz.ntmps84;go_upto_region 1 with fail;rw[<-HW.out];go_region;go_wp2_with fail;refine bodyPost_ret (by simp[results,Tryz.results84,go_sem,hJ];try rfl) rfl ?_;exact⟨rfl,HF.out.drew⟩
theorem Xwf(k l c:Int)(b:ByteArray)(w:World):(Instr.field 174 (.agg #[.int .i64 k,.string b,.int .i64 l,.int .i64 c]) 2).run Tryz.prog w=.ok (.agg #[.int .i64 l,.int .i64 c]) w:=by kernel_rfl
theorem Xu2(k l c:Int)(b:ByteArray)(w:World):(Instr.field 174 (.agg #[.int .i64 k,.string b,.int .i64 l,.int .i64 c]) 0).run Tryz.prog w=.ok (.int .i64 k) w:=by kernel_rfl
theorem Xwg(k l c:Int)(b:ByteArray)(w:World):(Instr.field 174 (.agg #[.int .i64 k,.string b,.int .i64 l,.int .i64 c]) 1).run Tryz.prog w=.ok (.string b) w:=by kernel_rfl
theorem Xf9{rb:Nat}{tv:Value}{L:List Xh}{n:Nat}{rest:List Value}{u:World}(h:Rd0 rb tv L n rest u){t:Xh}(ht:L[n]? =some t):
 Calls Tryz.prog 132 #[.pointer (some ⟨rb,0,none⟩)] u λe w'=>e=.panicked [{v:=.iface 170 (.agg #[.int .i64 t.line,.int .i64 t.col]),recovered:=false}]/\Below u.heap.size u w':=by
 have KN:=Xa (Xc.first (XcD h ht));simp only[Xh.val] at KN;have f2:=Xwf;clear h ht;go_enter Tryz.func132,Tryz.ntmps132;go_wp2_with (go_at_call 84;refine KN.out.mono ?_;rintro e w1 ⟨rfl,y,rfl⟩)
 exact⟨rfl,rfl,y.below⟩
def Xn8{α:Type}(rb:Nat)(tv:Value)(L:List Xh)(rest:List Value)(val:α->Value)(x:Rd α)(u:World)(e:Ending)(w':World):Prop:=
 u.grownBy w' (some rb)/\match x with
  |.ok (a,r)=>e=.returned (val a)/\∃n,L.drop n=r/\Rd0 rb tv L n rest w'
  |.error q=>e=.panicked [{v:=.iface 170 (.agg #[.int .i64 q.1,.int .i64 q.2]),recovered:=false}]
theorem XnQ{L r:List Xh}{n:Nat}{t:Xh}(h:L.drop n=t::r):L[n]? =some t/\L.drop (n+1)=r:=by
 have h1:(L.drop n)[0]? =some t:=by rw[h];rfl
 rw[List.getElem?_drop] at h1;refine⟨by simpa using h1,?_⟩;have h2:L.drop (n+1)=(L.drop n).drop 1:=by rw[List.drop_drop]
 rw[h2,h];rfl
def Xmx(u:World)(v:Value)(ok:List UInt8->Bool):Prop:=
 (v=.slice none 0 0/\ok=λ_=>true)\/∃(b off:Nat) (zs:List ByteArray) (c:Nat),v=.slice (some ⟨b,off,none⟩) zs.length c/\0<zs.length/\zs.length<=1000/\b<u.heap.size/\(∀j,j<zs.length->u.cell? ⟨b,off+j,none⟩=some (.string (zs.getD j ByteArray.empty)))/\∀x:ByteArray,ok (bs x)=Go.Lib.containsS zs x
theorem ZM{rb:Nat}{tv:Value}{L:List Xh}{n:Nat}{rest:List Value}{u:World}(h:Rd0 rb tv L n rest u)(hl:XC (L.drop n))(hY:L.length<=1000000)(k:Int)(vt:Value)(ok:List UInt8->Bool)(ht:Xmx u vt ok):
 Calls Tryz.prog 81 #[.pointer (some ⟨rb,0,none⟩),.int .i64 k,vt] u (Xn8 rb tv L rest Value.string (XP k ok (L.drop n)) u):=by
 obtain⟨t,r,hN⟩:∃t r,L.drop n=t::r:=by
  cases hd:L.drop n with
  |nil=>exact absurd hd hl.ne
  |cons t r=>exact⟨t,r,rfl⟩
 obtain⟨hg,hr⟩:=XnQ hN;rw[hN];have KN:=Xa (Xc.first (XcD h hg));simp only[Xh.val] at KN;have HH:=Xa h;have hZ:=(lgS hg).1;have pG:(n:Int)<=1000000:=by omega
 have c1:=λy:Xb u.heap.size u=>(h.more y.below).cell1;have f1:=λy:Xb u.heap.size u=>(h.more y.below).free 1;have pA:=h.lt;have HG:=Xa hg;have HR:=Xa hr;have KF:=Xa λ(y:Xb u.heap.size u)=>Xf9 (h.more y.below) hg;clear hl h hN hg hr hZ;obtain⟨kd,hH⟩:∃b:Bool,decide (t.kind=k)=b:=⟨_,rfl⟩
 obtain⟨okb,hD⟩:∃b:Bool,ok (bs t.text)=b:=⟨_,rfl⟩
 have hI:XP k ok (t::r)=if (kd&&okb)=true then .ok (t.text,r) else .error (t.line,t.col):=by
  simp only[XP];by_cases h1:t.kind=k/\ok (bs t.text)=true
  ·rw[if_pos h1,if_pos (by rw[<-hH,<-hD,decide_eq_true h1.1,h1.2];rfl)]
  ·rw[if_neg h1,if_neg (λh2=>h1 (by rw[bae] at h2;exact⟨of_decide_eq_true (hH.trans h2.1),hD.trans h2.2⟩))]
 have pB:(t.kind !=k)= !kd:=by
  rw[<-hH,bne,Bool.beq_eq_decide_eq]
 have hJ:=Xa hI;have hK:=Xa hD;have pH:=Xa hH;clear hI hD hH;go_enter Tryz.func81,Tryz.ntmps81;go_upto_region 2 with (go_at_call 84;refine KN.out.mono ?_;rintro e w1 ⟨rfl,y,rfl⟩)
 obtain⟨V,hV,hR,hT,hL⟩:=boxed y.val (.cells #[.int .i64 t.kind,.string t.text,.int .i64 t.line,.int .i64 t.col] 174);obtain⟨vb,hO⟩:∃b,b=y.val.heap.size:=⟨_,rfl⟩
 rw[<-hO] at hR hL;have hU:Below u.heap.size u V:=y.below.trans (hT.mono y.size);have hW:=λz:Xb V.heap.size V=>And.intro (z.cells hL (by omega) 0 _ rfl) (z.cells hL (by omega) 1 _ rfl);have hP:=hW (Xb.refl _ _);simp only[Xb.refl] at hP;have HV:=Xa hV;have pC:=Xa hO;have hE:=Xa hU;have pI:rb<vb:=by have:=y.size;omega
 clear hV hO hR hT hL hU;rw[<-HV.out,<-pC.out];go_cut [25] (λa wx=>a=.bool (!(kd&&okb))/\wx=V)
 case first=>
  cases kd
  ·go_wp2_with fail;go_meet;exact⟨rfl,rfl⟩
  ·rcases ht with ⟨rfl,hM⟩|⟨b,off,zs,c,rfl,pJ,pK,hb,hG,hM⟩
   ·have:okb=true:=by rw[<-hK.out,hM]
    subst this;go_wp2_with fail;go_meet;exact⟨rfl,rfl⟩
   ·have pL:(0:Int)<(zs.length:Int):=by omega
    have KC:=Xa (Tryz.slices_Contains_string b off zs.length c zs t.text V nr (by omega) (λj hj=>(hE.out.cell (p:=⟨b,off+j,none⟩) hb).trans (hG j hj)));rw[List.take_length,<-hM t.text,hK.out] at KC;clear hG hM;go_wp2_with (go_at_call 131;refine KC.out.mono ?_;rintro e w2 ⟨rfl,rfl⟩)
    go_meet;exact⟨rfl,rfl⟩
 case rest=>
 obtain⟨rfl,pD⟩:=hcut;subst pD;have hX:=Xa (KF.out ⟨wc,hE.out⟩);have c1w:=c1 ⟨wc,hE.out⟩;have f1w:=f1 ⟨wc,hE.out⟩;simp only at hX c1w f1w;have pE:rb<wc.heap.size:=Nat.lt_of_lt_of_le pA hE.out.size;clear c1 f1 KF KN pB;cases hC:(kd&&okb)
 ·have hQ:=Xa (show XP k ok (t::r)=.error (t.line,t.col) by rw[hJ.out,hC];rfl);clear hC;go_wp2_with fail;refine hX.out.mono ?_;rintro e w3 ⟨rfl,pF⟩;refine⟨rfl,XD (hE.out.trans (pF.mono hE.out.size)),?_⟩;rw[hQ.out]
 ·have hQ:=Xa (show XP k ok (t::r)=.ok (t.text,r) by rw[hJ.out,hC];rfl);have pM:∀v,(wc.setCell ⟨rb,1,none⟩ v).cell? ⟨vb,1,none⟩=some (.string t.text):=λv=>(World.cell?_of_block (a:=⟨vb,1,none⟩) (Below.heap_setCell _ _ _ _ (by simp only;omega))).trans (hW (Xb.refl _ _)).2;clear hC;go_wp2_with fail;go_ret;refine⟨XX (XD hE.out),?_⟩;rw[hQ.out];exact⟨rfl,n+1,HR.out,(HH.out.more hE.out).setAt (n+1)⟩
end Go.Proofs.YtdcahhbipeaggaaGreatDoor
namespace Go.Proofs.YtdcahhbipeaggaaGreatDoor
open Go Go.Lib
theorem Xdp:∀(l:List UInt8) (acc:Nat),l.all ZB=true->Xfl acc l<18446744073709551616->parseUint10 acc l=.ok (Xfl acc l)
 |[],acc,_,_=>by rw[Xh9];rfl
 |c::r,acc,hd,hb=>by
  simp only[List.all_cons,bae] at hd;have hc:=XcO hd.1;rw[Xgq] at hb ⊢;have h2:=Xuo r (10*acc+(c.toNat-48));have e:acc*10+(c.toNat-48)=10*acc+(c.toNat-48):=by omega
  rw[parseUint10,if_pos hc,if_neg (by omega),if_neg (by omega),e];exact Xdp r _ hd.2 hb
theorem XfG{u:Nat}(h:u<18446744073709551616):parseMag (decDigits u)=.ok u:=by
 have hC:decDigits u≠[]:=λe=>by
  have:=nDigits_pos u;rw[<-decDigits_length,e] at this;simp at this
 rw[parseMag,if_neg hC,Xdp _ 0 (QV u) (by rw[Xfk];exact h),Xfk]
theorem Xgi{n:Int}(h0: -9223372036854775808<=n)(h1:n<=9223372036854775807):atoiAll (itoa n)=.ok n:=by
 by_cases h:n<0
 ·rw[XfP h,atoiAll];have e:parseMag (if (45:UInt8).toNat=43\/(45:UInt8).toNat=45 then decDigits n.natAbs else 45::decDigits n.natAbs)=.ok n.natAbs:=by
   rw[if_pos (Or.inr (by decide)),XfG (by omega)]
  simp only[e];rw[if_neg (by simp),if_neg (by omega)];simp;omega
 ·obtain⟨m,rfl⟩:∃m:Nat,n=m:=⟨n.toNat,by omega⟩
  rw[XcJ];cases hd:decDigits m with
  |nil=>have:=nDigits_pos m;rw[<-decDigits_length,hd] at this;simp at this
  |cons c r=>
   have hc:48<=c.toNat/\c.toNat<=57:=by
    have hC:=QV m;rw[hd] at hC;simp only[List.all_cons,bae] at hC;exact XcO hC.1
   have h3:¬(c.toNat=43\/c.toNat=45):=by omega
   have h4:¬c.toNat=45:=by omega
   have e:parseMag (if c.toNat=43\/c.toNat=45 then r else c::r)=.ok m:=by rw[if_neg h3,<-hd,XfG (by omega)]
   rw[atoiAll];simp only[e];rw[if_neg (by omega),if_neg (by omega)];simp[h4]
end Go.Proofs.YtdcahhbipeaggaaGreatDoor
namespace Go.Proofs.YtdcahhbipeaggaaGreatDoor
open Go.RowKit
def Xch(w:World):Prop:=J9 w/\(2<w.heap.size/\3<w.heap.size)/\(∃t p,w.cell? ⟨2,0,none⟩=some (.iface t p))/\∃t p,w.cell? ⟨3,0,none⟩=some (.iface t p)
theorem Xch.below{w w':World}(h:Xch w)(hb:Below w.heap.size w w'):Xch w':=by
 obtain⟨h1,⟨h2,h3⟩,⟨t,p,h6⟩,t',p',h7⟩:=h;exact⟨h1.below hb,⟨Nat.lt_of_lt_of_le h2 hb.size,Nat.lt_of_lt_of_le h3 hb.size⟩,⟨t,p,(hb.cell h2).trans h6⟩,t',p',(hb.cell h3).trans h7⟩
theorem Xt7(s:ByteArray)(hs:s.size<=140737488355328)(w:World)(ht:Xch w):Calls Tryz.prog 133 #[.string s] w λe w'=>
 ∃v er,e=.returned (.tuple #[.int .i64 v,er])/\Below w.heap.size w w'/\I64 v/\((Lib.atoiAll (bs s)=.ok v/\er=.nilIface)\/((∀n,Lib.atoiAll (bs s)≠ .ok n)/\∃t p,er=.iface t p)):=by
 obtain⟨_,_,⟨t,p,h6⟩,t',p',h7⟩:=ht;rw[Yk];rcases h:Lib.atoiAll s.data.toList with v|_|_
 ·refine(Tryz.strconv_Atoi_ok s (by omega) v h w).mono ?_;rintro e w' ⟨rfl,hw⟩;refine⟨v,_,rfl,?_,Lib.atoiAll_bounds h,Or.inl ⟨rfl,rfl⟩⟩;rcases hw with rfl|⟨t,rfl⟩
  ·exact Below.refl _ _
  ·exact Joins.below_bytesWorld _ _ _ _ nr
 ·refine(Tryz.strconv_Atoi_syntax s (by omega) h _ w h6 (Or.inr ⟨_,_,rfl⟩)).mono ?_;rintro e w' ⟨N,rfl,_,_,hb⟩;exact⟨_,_,rfl,hb,⟨by omega,by omega⟩,Or.inr ⟨(λn hn=>(by cases hn)),_,_,rfl⟩⟩
 ·refine(Tryz.strconv_Atoi_range s (by omega) h _ w h7 (Or.inr ⟨_,_,rfl⟩)).mono ?_;rintro e w' ⟨N,rfl,_,_,hb⟩;refine⟨_,_,rfl,hb,?_,Or.inr ⟨(λn hn=>(by cases hn)),_,_,rfl⟩⟩;unfold Lib.atoiSat I64;split<;>omega
structure Ctx(w0:World)(rb:Nat)(u:World):Prop where
 tabs:Xch w0
 bel:Below w0.heap.size w0 u
 lo:w0.heap.size<=rb
theorem Ctx.tab{w0 u:World}{rb:Nat}(h:Ctx w0 rb u):Xch u:=h.tabs.below h.bel
theorem Ctx.grown{w0 u u':World}{rb:Nat}(h:Ctx w0 rb u)(hg:u.grownBy u' (some rb)):Ctx w0 rb u':=
 ⟨h.tabs,Below.grown h.bel hg h.bel.size (λk hk=>by injection hk with hk;rw[<-hk];exact h.lo),h.lo⟩
theorem XlX{n:Int}(h2:(Lib.itoa n).length<=15): -1000000000000000<n/\n<1000000000000000:=by
 by_cases hC:n<0
 ·rw[XfP hC,List.length_cons,Lib.decDigits_length] at h2;have h3:=Lib.lt_pow_nDigits n.natAbs;have h4:10^Lib.nDigits n.natAbs<=10^14:=Nat.pow_le_pow_right (by decide) (by omega);omega
 ·obtain⟨m,rfl⟩:∃m:Nat,n=m:=⟨n.toNat,by omega⟩
  rw[XcJ,Lib.decDigits_length] at h2;have h3:=Lib.lt_pow_nDigits m;have h4:10^Lib.nDigits m<=10^15:=Nat.pow_le_pow_right (by decide) h2;omega
theorem Xnb{w:List UInt8}{v:Int}(h:Lib.atoiAll w=.ok v):Xa2 w=if w.length<=15/\Lib.itoa v=w then some v else none:=by
 by_cases hx:w.length<=15/\Lib.itoa v=w
 ·rw[if_pos hx];exact Xa1.2 ⟨hx.2,hx.1⟩
 ·rw[if_neg hx];cases hn:Xa2 w with
  |none=>rfl
  |some n=>
   obtain⟨h1,h2⟩:=Xa1.1 hn;have hb:=XlX (n:=n) (by rw[h1];exact h2);have h5:=Xgi (n:=n) (by omega) (by omega);rw[h1,h] at h5;injection h5 with h5;subst h5;exact absurd ⟨h2,h1⟩ hx
theorem Xna{w:List UInt8}(h:∀v,Lib.atoiAll w≠ .ok v):Xa2 w=none:=by
 cases hn:Xa2 w with
 |none=>rfl
 |some n=>
  obtain⟨h1,h2⟩:=Xa1.1 hn;have hb:=XlX (n:=n) (by rw[h1];exact h2);exact absurd (by rw[<-h1];exact Xgi (by omega) (by omega)) (h n)
theorem XC.head{L:List Xh}{n:Nat}(hl:XC (L.drop n)):∃t r,L.drop n=t::r/\L[n]? =some t/\L.drop (n+1)=r/\n<L.length:=by
 cases hd:L.drop n with
 |nil=>exact absurd hd hl.ne
 |cons t r=>
  obtain⟨h1,h2⟩:=XnQ hd;exact⟨t,r,rfl,h1,h2,(lgS h1).1⟩
theorem XeZ{rb:Nat}{tv:Value}{L:List Xh}{n:Nat}{rest:List Value}{u w0:World}(h:Rd0 rb tv L n rest u)(hl:XC (L.drop n))(qE:L.length<=1000000)(qF:∀t∈L,t.text.size<=1000000)(hc:Ctx w0 rb u):
 Calls Tryz.prog 83 #[.pointer (some ⟨rb,0,none⟩)] u (Xn8 rb tv L rest (λv:Int=> .int .i64 v) (Y2 (L.drop n)) u):=by
 obtain⟨t,r,pI,hg,hr,qR⟩:=hl.head;have qS:(n:Int)<=1000000:=by omega
 have KN:=Xa λ(y:Xb u.heap.size u)=>Xc.after (x:=y) nr (XcD (h.more y.below) hg);simp only[Xh.val] at KN;have HH:=Xa h;have HC:=Xa hc;have c1:=λy:Xb u.heap.size u=>(h.more y.below).cell1;have f1:=λy:Xb u.heap.size u=>(h.more y.below).free 1;have g0:=Xu2;have g1:=Xwg;obtain⟨mb,hN⟩:∃b,Jy t=b:=⟨_,rfl⟩
 obtain⟨k3,pJ⟩:∃b,(t.kind==3)=b:=⟨_,rfl⟩
 obtain⟨tm,pK⟩:∃b,(t.text.toList==[45])=b:=⟨_,rfl⟩
 have pL:mb=(k3&&tm):=by
  rw[<-hN,<-pJ,<-pK,Jy,Bool.beq_eq_decide_eq,Bool.beq_eq_decide_eq];rfl
 have pM:=Xa hl;have pN:=Xa hr;have hO:=Xa pI;have pO:=Xa hN;have pP:=Xa pL;have YR:u=(Xb.refl u.heap.size u).val:=rfl;clear h hl hc hg hr pI hN pL;go_enter Tryz.func83,Tryz.ntmps83;go_upto_region 1 with fail;go_cut [3] (λa wx=>a=.bool mb/\∃y:Xb u.heap.size u,wx=y.val)
 case first=>
  cases k3
  ·go_wp2_with (go_at_call 84;rw[YR];refine(KN.out _).mono ?_;rintro e w1 ⟨rfl,y,rfl⟩)
   go_meet;exact⟨by rw[pP.out];rfl,y,rfl⟩
  ·go_wp2_with (first
    |(go_at_call 84;refine(KN.out y).mono ?_;rintro e w1 ⟨rfl,z,rfl⟩)
    |(go_at_call 84;rw[YR];refine(KN.out _).mono ?_;rintro e w1 ⟨rfl,y,rfl⟩))
   go_meet;exact⟨by rw[pP.out];rfl,z,rfl⟩
 case rest=>
 obtain⟨rfl,y,rfl⟩:=hcut;have c1y:=c1 y;have f1y:=f1 y;have hP:=(HH.out.more y.below).lt;have qG:Hid (mb=true->XC r):=Xa λhm=>by
  have h5:=pM.out;rw[hO.out] at h5;refine h5.tail λe=> ?_;have h6:=pO.out;rw[hm] at h6;simp only[Jy,bae,decide_eq_true_eq] at h6;rw[h6.1] at e;cases e
 have hQ:Hid (Y2 (L.drop n)=JS mb (if mb then r else t::r)):=Xa (by
  rw[hO.out];simp only[Y2];rw[pO.out]
  cases mb<;>rfl)
 clear c1 f1 KN;go_upto_if 17 with fail;go_cut [3] (λa wx=>a=.bool mb/\∃m:Nat,Hid (Rd0 rb tv L m rest wx)/\Hid (u.grownBy wx (some rb))/\Hid (L.drop m=if mb then r else t::r)/\Hid (XC (L.drop m)))
 case first=>
  cases mb
  ·go_wp2_with fail;go_meet;exact⟨rfl,n,Xa (HH.out.more y.below),Xa (XD y.below),Xa (by rw[hO.out];rfl),pM⟩
  ·go_wp2_with fail;go_meet;exact⟨rfl,n+1,Xa ((HH.out.more y.below).setAt (n+1)),Xa (XX (XD y.below)),Xa (by rw[pN.out];rfl),Xa (by rw[pN.out];exact qG.out (by first|rfl|trivial))⟩
 case rest=>
 obtain⟨rfl,m,hm,hR,hdr,h5⟩:=hcut;obtain⟨t2,r2,hE,hJ,pQ,qH⟩:=h5.out.head;have qT:(m:Int)<=1000000:=by omega
 have pR:=Xa (Xc.first (XcD hm.out hJ));simp only[Xh.val] at pR;have qI:=Xa λ(z:Xb wc.heap.size wc)=>Xf9 (hm.out.more z.below) hJ;have qJ:=qF t2 (lmg hJ);have hT:=Xa hE;have pS:=Xa pQ;have hU:=Xa (HC.out.grown hR.out);have KA:=Xa λ(z:Xb wc.heap.size wc)=>Xt7 t2.text (by omega) z.val (hU.out.tab.below z.below);have KI:=Xa λ(v:Int) (hv:I64 v) (z:Xb wc.heap.size wc)=>Xc.after (x:=z) nr (XfO v hv z.val (hU.out.tab.1.below z.below));have c1w:=λz:Xb wc.heap.size wc=>(hm.out.more z.below).cell1;have f1w:=λz:Xb wc.heap.size wc=>(hm.out.more z.below).free 1
 have qK:=hm.out.lt;have hG:Hid (Y2 (L.drop n)=JS mb (t2::r2)):=Xa (by rw[hQ.out,<-hdr.out,hT.out]);clear c1y f1y hP hE hJ pQ qH pJ pK YR;go_upto_region 4 with fail;go_upto_region 5 with (go_at_call 84;refine pR.out.mono ?_;rintro e w1 ⟨rfl,z,rfl⟩)
 obtain⟨V,hV,pT,pU,hK⟩:=boxed z.val (.cells #[.int .i64 t2.kind,.string t2.text,.int .i64 t2.line,.int .i64 t2.col] 174);obtain⟨vb,hW⟩:∃b,b=z.val.heap.size:=⟨_,rfl⟩
 rw[<-hW] at pT hK;have hX:Below wc.heap.size wc V:=z.below.trans (pU.mono z.size);have pV:=λq:Xb V.heap.size V=>And.intro (q.cells hK (by omega) 0 _ rfl) (q.cells hK (by omega) 1 _ rfl);have hY:=pV (Xb.refl _ _);simp only[Xb.refl] at hY;have HV:=Xa hV;have qL:=Xa hW;have hZ:=Xa hX;have pA:=hX.size;clear hV hW pT pU hK hX;rw[<-HV.out,<-qL.out];go_wp2_with fail;refine(KA.out ⟨V,hZ.out⟩).mono ?_;rintro e w2 ⟨v,er,rfl,pW,hv,pX⟩;obtain⟨q,rfl⟩:∃q:Xb V.heap.size V,w2=q.val:=Xb.exists_iff pW;have pB:=Xa hv;have qU:=pV q;have pY:=Xa λ(z:Xb V.heap.size V)=>Xc.after (x:=z) nr (XfO v pB.out z.val ((hU.out.tab.1.below hZ.out).below z.below))
 obtain⟨kb,pC⟩:∃b,(t2.kind==2)=b:=⟨_,rfl⟩
 have qM:(t2.kind !=2)= !kb:=by rw[<-pC];rfl
 obtain⟨lb,hL⟩:∃b,decide ((t2.text.size:Int)<=15)=b:=⟨_,rfl⟩
 obtain⟨ib,pD⟩:∃b,((⟨(Lib.itoa v).toArray⟩:ByteArray).toList==t2.text.toList)=b:=⟨_,rfl⟩
 have qN:((⟨(Lib.itoa v).toArray⟩:ByteArray).toList !=t2.text.toList)= !ib:=by rw[<-pD];rfl
 have pZ:=Xa pC;have pE:=Xa hL;have hM:=Xa pD;have qO:∃eb:Bool,(eb=true/\er=.nilIface/\Lib.atoiAll (bs t2.text)=.ok v)\/(eb=false/\(∃t p,er=.iface t p)/\∀n,Lib.atoiAll (bs t2.text)≠ .ok n):=by
  rcases pX with ⟨h1,h2⟩|⟨h1,h2⟩
  ·exact⟨true,Or.inl ⟨rfl,h2,h1⟩⟩
  ·exact⟨false,Or.inr ⟨rfl,h2,h1⟩⟩
 obtain⟨eb,pF⟩:=qO;have qA:=Xa pF;have hH:JS mb (t2::r2)=if (kb&&eb&&lb&&ib)=true then .ok (if mb then-v else v,r2) else .error (t2.line,t2.col):=by
  simp only[JS];have hlen:(bs t2.text).length=t2.text.size:=XO _;cases kb
  ·rw[if_neg (by simpa using pZ.out),if_neg (by simp)]
  ·rw[if_pos (by simpa using pZ.out)];rcases pF with ⟨rfl,_,h2⟩|⟨rfl,_,h2⟩
   ·rw[Xnb h2];by_cases hx:(bs t2.text).length<=15/\Lib.itoa v=bs t2.text
    ·have e1:lb=true:=by rw[<-pE.out];exact decide_eq_true (by omega)
     have e2:ib=true:=by
      rw[<-hM.out];exact beq_iff_eq.2 (show bs ⟨(Lib.itoa v).toArray⟩=bs t2.text by rw[Xcf];exact hx.2)
     rw[if_pos hx,e1,e2];rfl
    ·rw[if_neg hx,if_neg (λhy=>hx (by
      simp only[Bool.true_and,bae] at hy;refine⟨by have:=of_decide_eq_true (pE.out.trans hy.1);omega,?_⟩;have h9:=hM.out.trans hy.2;rw[beq_iff_eq] at h9;rw[show Lib.itoa v=bs ⟨(Lib.itoa v).toArray⟩ from(Xcf _).symm]
      exact h9))]
   ·rw[Xna h2,if_neg (by simp)]
 have hI:=Xa hH;clear pC pD hv pW pX pF hH;go_upto_region 6 with fail;go_cut [52] (λa wx=>a=.bool (!(kb&&eb&&lb&&ib))/\∃z:Xb V.heap.size V,wx=z.val)
 case first=>
  cases kb
  ·refine Xk q (by kernel_rfl) (by kernel_rfl) ?_
   repeat (go_big_quiet_step (fail))
   refine wpQuiet_nil ?_;intro z;go_wp2_with fail;go_meet;exact⟨rfl,z,rfl⟩
  ·rcases qA.out with ⟨rfl,rfl,_⟩|⟨rfl,⟨t,p,rfl⟩,_⟩
   ·cases lb
    ·have pG:decide ((15:Int)<(t2.text.size:Int))=true:=by have:=of_decide_eq_false hL;exact decide_eq_true (by omega)
     refine Xk q (by kernel_rfl) (by kernel_rfl) ?_
     repeat (go_big_quiet_step (fail))
     refine wpQuiet_nil ?_;intro z;go_wp2_with fail;go_meet;exact⟨rfl,z,rfl⟩
    ·have pG:decide ((15:Int)<(t2.text.size:Int))=false:=by have:=of_decide_eq_true hL;exact decide_eq_false (by omega)
     refine Xk q (by kernel_rfl) (by kernel_rfl) ?_
     repeat (go_big_quiet_step ((go_at_call 75;exact pY.out _)))
     refine wpQuiet_nil ?_;intro z;go_wp2_with fail;go_meet;exact⟨by have h9:=hM.out;simp at h9;simp[h9],z,rfl⟩
   ·refine Xk q (by kernel_rfl) (by kernel_rfl) ?_
    repeat (go_big_quiet_step (fail))
    refine wpQuiet_nil ?_;intro z;go_wp2_with fail;go_meet;exact⟨rfl,z,rfl⟩
 case rest=>
 obtain⟨rfl,z2,rfl⟩:=hcut;have hD:Below wc.heap.size wc z2.val:=hZ.out.trans (z2.below.mono pA);have pH:=Xa hD;have qB:=Xa (qI.out ⟨z2.val,hD⟩);simp only at qB;have c1z:=c1w ⟨z2.val,hD⟩;have f1z:=f1w ⟨z2.val,hD⟩;simp only at c1z f1z;clear c1w f1w qN qM hL hD pY KI KA;cases hC:(kb&&eb&&lb&&ib)
 ·have HE:=Xa (show Y2 (L.drop n)=.error (t2.line,t2.col) by rw[hG.out,hI.out,hC];rfl);clear hC;go_wp2_with fail;refine qB.out.mono ?_;rintro e w3 ⟨rfl,qP⟩;refine⟨rfl,Yj (Yj hR.out pH.out) qP,?_⟩;rw[HE.out]
 ·have HE:=Xa (show Y2 (L.drop n)=.ok (if mb then-v else v,r2) by rw[hG.out,hI.out,hC];rfl);have qC:=Xa ((hm.out.more pH.out).setAt (m+1));have qD:=Xa (XX (i:=1) (v:=.int .i64 (m+1:Nat)) (Yj hR.out pH.out));have qV:=qA;have qQ: -1000000000000000<v/\v<1000000000000000:=by
   simp only[bae] at hC;have h9:=hM.out.trans hC.2;have h8:=of_decide_eq_true (pE.out.trans hC.1.2);rw[beq_iff_eq] at h9;have h7:Lib.itoa v=bs t2.text:=by rw[show Lib.itoa v=bs ⟨(Lib.itoa v).toArray⟩ from(Xcf _).symm];exact h9
   refine XlX ?_;rw[h7,XO];omega
  clear hC;cases mb
  ·go_wp2_with fail;go_ret;refine⟨qD.out,?_⟩;rw[HE.out];exact⟨rfl,m+1,pS.out,qC.out⟩
  ·go_wp2_with fail;go_ret;refine⟨qD.out,?_⟩;rw[HE.out];exact⟨by simp,m+1,pS.out,qC.out⟩
end Go.Proofs.YtdcahhbipeaggaaGreatDoor
namespace Go.Proofs.YtdcahhbipeaggaaGreatDoor
open Go.RowKit
theorem ZO{rb:Nat}{tv:Value}{L:List Xh}{n:Nat}{rest:List Value}{u:World}(h:Rd0 rb tv L n rest u)(hl:XC (L.drop n))(hC:L.length<=1000000):
 Calls Tryz.prog 82 #[.pointer (some ⟨rb,0,none⟩)] u (Xn8 rb tv L rest Value.string (XT (L.drop n)) u):=by
 have KT:=Xa (ZM h hl hC 1 (.slice none 0 0) (λ_=>true) (Or.inl ⟨rfl,rfl⟩));clear h hl;go_enter Tryz.func82,Tryz.ntmps82;go_wp2_with fail;refine KT.out.mono ?_;rintro e w1 ⟨hg,hm⟩;have HM:=Xa hm;have HG:=Xa hg;clear hg hm;have hn:XT (L.drop n)=XP 1 (λ_=>true) (L.drop n):=rfl;cases hx:XP 1 (λ_=>true) (L.drop n) with
 |error q=>
  have h1:=HM.out;rw[hx] at h1;simp only at h1;subst h1;exact⟨rfl,HG.out,by rw[hn,hx]⟩
 |ok v=>
  obtain⟨a,r⟩:=v;have h1:=HM.out;rw[hx] at h1;obtain⟨rfl,m,h2,h3⟩:=h1;have HH:=Xa (And.intro h2 h3);have HX:=Xa hx;clear HM hx h2 h3 hn;go_wp2_with fail;go_ret;refine⟨HG.out,?_⟩;rw[show XT (L.drop n)=XP 1 (λ_=>true) (L.drop n) from rfl,HX.out];exact⟨rfl,m,HH.out.1,HH.out.2⟩
theorem XhF{a b c:Nat}(h:a=b)(h2:b<c):a<c:=h▸h2
def numAt(w:World)(p:Addr):Nat:=match w.cell? p with|some (.int _ n)=>n.toNat|_=>0
theorem Rd0.numAt{rb:Nat}{tv:Value}{L:List Xh}{n:Nat}{rest:List Value}{x:World}(h:Rd0 rb tv L n rest x):numAt x ⟨rb,1,none⟩=n:=by rw[Go.Proofs.YtdcahhbipeaggaaGreatDoor.numAt,h.cell1];simp
theorem Xsi{rb:Nat}{tv:Value}{L:List Xh}{n:Nat}{rest:List Value}{u:World}(h:Rd0 rb tv L n rest u)(hl:XC (L.drop n))(hL:L.length<=1000000):
 Calls Tryz.prog 80 #[.pointer (some ⟨rb,0,none⟩)] u (Xn8 rb tv L rest (λ_:Unit=> .tuple #[]) (.ok ((),XS (L.drop n))) u):=by
 have HH:=Xa h;have HL:=Xa hl;clear h hl;have g0:=Xu2;go_enter Tryz.func80,Tryz.ntmps80;go_wp2_with fail;go_loopw [5] (λ_ wr=>∃m:Nat,Hid (Rd0 rb tv L m rest wr)/\Hid (u.grownBy wr (some rb))/\Hid (XC (L.drop m))/\Hid (XS (L.drop m)=XS (L.drop n))) (λ_ wr=>L.length-numAt wr ⟨rb,1,none⟩)
 case atStart=>exact⟨n,HH,Xa (World.grownBy.refl _ _),HL,Xa rfl⟩
 case round=>
  obtain⟨m,hm,hI,h5,hJ⟩:=hrel;obtain⟨t,r,hC,hg,hr,hD⟩:=h5.out.head;have hM:(m:Int)<=1000000:=by omega
  have KN:=Xa (Xc.first (XcD hm.out hg));simp only[Xh.val] at KN;have c1:=λz:Xb wr.heap.size wr=>(hm.out.more z.below).cell1;have f1:=λz:Xb wr.heap.size wr=>(hm.out.more z.below).free 1;have hT:=hm.out.lt;have hE:=Xa hC;have HR:=Xa hr;have hN:=Xa hD;have hG:=hm.out.numAt;by_cases hk:t.kind=4
  ·have hO:(t.kind==4)=true:=by rw[hk];rfl
   have hH:=Xa (show XS (L.drop (m+1))=XS (L.drop n) by rw[HR.out,<-hJ.out,hE.out,Jj hk]);have H5:=Xa (show XC (L.drop (m+1)) by rw[HR.out];have h9:=h5.out;rw[hE.out] at h9;exact h9.tail (by rw[hk];decide));clear hk hC hr hg hD;go_wp2_with (go_at_call 84;refine KN.out.mono ?_;rintro e w1 ⟨rfl,z,rfl⟩;have c1z:=c1 z;have f1z:=f1 z)
   have hK:=(hm.out.more z.below).setAt (m+1);have hP:=hK.numAt;refine⟨⟨m+1,Xa hK,Xa (XX (Yj hI.out z.below)),H5,hH⟩,?_⟩;have hQ:=hN.out;clear hM;show L.length-Go.Proofs.YtdcahhbipeaggaaGreatDoor.numAt _ ⟨rb,1,none⟩<L.length-Go.Proofs.YtdcahhbipeaggaaGreatDoor.numAt wr ⟨rb,1,none⟩;rw[hG];have hR:L.length-(m+1)<L.length-m:=by omega
   exact XhF (congrArg (λk=>L.length-k) hP) hR
  ·have hO:(t.kind==4)=false:=by simpa using hk
   have hH:=Xa (show L.drop m=XS (L.drop n) by rw[<-hJ.out,hE.out,YN hk]);clear hk hC hr hg hD;go_wp2_with (go_at_call 84;refine KN.out.mono ?_;rintro e w1 ⟨rfl,z,rfl⟩)
   go_end0;exact⟨Yj hI.out z.below,rfl,m,hH.out,hm.out.more z.below⟩
end Go.Proofs.YtdcahhbipeaggaaGreatDoor
namespace Go.Proofs.YtdcahhbipeaggaaGreatDoor
open Go.RowKit
def QL(k:Nat)(ts:List Xh)(pre:List Int)(k':Nat)(ts':List Xh):Prop:=XY k ts=Xr (XY k' ts') λl r=> .ok (pre++l,r)
theorem QL.refl(k:Nat)(ts:List Xh):QL k ts [] k ts:=by
 unfold QL;cases XY k ts with
 |error p=>rfl
 |ok v=>rfl
theorem QL.step{k k':Nat}{ts ts' r:List Xh}{pre:List Int}{v:Int}(h:QL k ts pre (k'+1) ts')(hv:Y2 ts'=.ok (v,r)):QL k ts (pre++[v]) k' r:=by
 unfold QL at*;rw[h,Qt,hv];simp only[Xr];cases XY k' r with
 |error p=>rfl
 |ok v=>simp
theorem QL.err{k k':Nat}{ts ts':List Xh}{pre:List Int}{q:Int×Int}(h:QL k ts pre (k'+1) ts')(hv:Y2 ts'=.error q):XY k ts=.error q:=by
 unfold QL at h;rw[h,Qt,hv];rfl
theorem QL.done{k:Nat}{ts ts':List Xh}{pre:List Int}(h:QL k ts pre 0 ts'):XY k ts=.ok (pre,ts'):=by
 unfold QL at h;rw[h];simp[XY,Xr]
def Xdj:Array Value->List Nat->List Int->Array Value
 |c,o::os,v::vs=>Xdj (c.setIfInBounds o (.int .i64 v)) os vs
 |c,_,_=>c
theorem Xm3(c:Array Value)(os:List Nat):Xdj c os []=c:=by cases os<;>rfl
theorem XkC:∀(c:Array Value) (os:List Nat) (vs:List Int),(Xdj c os vs).size=c.size
 |c,[],vs=>by cases vs<;>rfl
 |c,o::os,[]=>rfl
 |c,o::os,v::vs=>by rw[Xdj,XkC];simp
theorem XkB:∀(c:Array Value) (os:List Nat) (pre:List Int) (v:Int) {o:Nat},os[pre.length]? =some o->Xdj c os (pre++[v])=(Xdj c os pre).setIfInBounds o (.int .i64 v)
 |c,[],pre,v,o,h=>by simp at h
 |c,o'::os,[],v,o,h=>by
  simp only[List.length_nil,List.getElem?_cons_zero,Option.some.injEq] at h;subst h;simp only[List.nil_append,Xdj,Xm3]
 |c,o'::os,p::pre,v,o,h=>by
  simp only[List.length_cons,List.getElem?_cons_succ] at h;simp only[List.cons_append,Xdj];exact XkB _ os pre v h
structure JP(u w:World)(a b:Nat):Prop where
 os:w.os=u.os
 tape:w.tape=u.tape
 output:w.output=u.output
 size:u.heap.size<=w.heap.size
 block:∀k,k<u.heap.size->k≠a->k≠b->w.heap[k]? =u.heap[k]?
theorem JP.refl(u:World)(a b:Nat):JP u u a b:=⟨rfl,rfl,rfl,Nat.le_refl _,λ_ _ _ _=>rfl⟩
theorem JP.more{u x y:World}{a b:Nat}(h:JP u x a b)(hg:x.grownBy y (some a)):JP u y a b:=
 ⟨hg.os.trans h.os,hg.tape.trans h.tape,hg.output.trans h.output,Nat.le_trans h.size hg.size,λk hk ha hb=>(hg.block k (Nat.lt_of_lt_of_le hk h.size) (λe=>ha (by injection e))).trans (h.block k hk ha hb)⟩
theorem JP.put{u x:World}{a b:Nat}(h:JP u x a b)(i:Nat)(v:Value):JP u (x.setCell ⟨b,i,none⟩ v) a b:=
 ⟨h.os,h.tape,h.output,by simp[World.setCell];exact h.size,λk hk ha hb=>(Below.heap_setCell _ _ _ _ (λe=>hb (by simp only at e;rw[e]))).trans (h.block k hk ha hb)⟩
theorem JP.one{u x y:World}{a b:Nat}(h:JP x y a b)(hu:u.grownBy x (some a))(hb:u.heap.size<=b):u.grownBy y (some a):=
 ⟨h.os.trans hu.os,h.tape.trans hu.tape,h.output.trans hu.output,Nat.le_trans hu.size h.size,λk hk hC=>(h.block k (Nat.lt_of_lt_of_le hk hu.size) (λe=>hC (by rw[e])) (by omega)).trans (hu.block k hk hC)⟩
theorem Ctx.grown2{w0 u u':World}{rb sb:Nat}(h:Ctx w0 rb u)(hg:JP u u' rb sb)(hs:w0.heap.size<=sb):Ctx w0 rb u':=
 ⟨h.tabs,⟨hg.os.trans h.bel.os,hg.tape.trans h.bel.tape,hg.output.trans h.bel.output,Nat.le_trans h.bel.size hg.size,λk hk=>(hg.block k (Nat.lt_of_lt_of_le hk h.bel.size) (by have:=h.lo;omega) (by omega)).trans (h.bel.block k hk)⟩,h.lo⟩
def Xv9(rb sb:Nat)(tv:Value)(L:List Xh)(rest:List Value)(cur:Array Value)(ty:TypeId)(offs:List Nat)(x:Rd (List Int))(u:World)(e:Ending)(w':World):Prop:=
 JP u w' rb sb/\match x with
  |.ok (l,r)=>e=.returned (.tuple #[])/\w'.heap[sb]? =some (.cells (Xdj cur offs l) ty (0,0))/\∃n,L.drop n=r/\Rd0 rb tv L n rest w'
  |.error q=>e=.panicked [{v:=.iface 170 (.agg #[.int .i64 q.1,.int .i64 q.2]),recovered:=false}]
theorem Rd0.putOther{rb sb:Nat}{tv:Value}{L:List Xh}{n:Nat}{rest:List Value}{x:World}(h:Rd0 rb tv L n rest x)(hC:sb≠rb)(hD:∀tb cap,tv=.slice (some ⟨tb,0,none⟩) L.length cap->sb≠tb)(i:Nat)(v:Value):Rd0 rb tv L n rest (x.setCell ⟨sb,i,none⟩ v):=by
 obtain⟨tb,cap,h1,h2,h3,h4,h5,h6⟩:=h.toks;exact⟨(Below.heap_setCell _ _ _ _ (λe=>hC (by simp only at e;exact e.symm))).trans h.box,tb,cap,h1,h2,h3,h4,by simp[World.setCell];exact h5,λi' t hi j u hu=>(World.cell?_of_block (a:=⟨tb,i'*4+j,none⟩) (Below.heap_setCell _ _ _ _ (λe=>hD tb cap h1 (by simp only at e;exact e.symm)))).trans (h6 i' t hi j u hu)⟩
theorem Xhb{rb sb pb po pc:Nat}{tv:Value}{L:List Xh}{n:Nat}{rest:List Value}{u w0:World}{cur:Array Value}{ty:TypeId}(offs:List Nat)(h:Rd0 rb tv L n rest u)(hl:XC (L.drop n))(hG:L.length<=1000000)(hO:∀t∈L,t.text.size<=1000000)(hc:Ctx w0 rb u)
 (hP:w0.heap.size<=sb) (hJ:sb≠rb) (hK:∀tb cap,tv=.slice (some ⟨tb,0,none⟩) L.length cap->sb≠tb) (hQ:pb≠rb) (hR:pb≠sb) (hT:pb<u.heap.size) (hs:u.heap[sb]? =some (.cells cur ty (0,0)))
 (ho:∀o∈offs,o<cur.size) (h9:offs.length<=9) (hp:∀i o,offs[i]? =some o->u.cell? ⟨pb,po+i,none⟩=some (.pointer (some ⟨sb,o,none⟩))):
 Calls Tryz.prog 134 #[.pointer (some ⟨rb,0,none⟩),.slice (some ⟨pb,po,none⟩) offs.length pc] u (Xv9 rb sb tv L rest cur ty offs (XY offs.length (L.drop n)) u):=by
 have HH:=Xa h;have HL:=Xa hl;have HC:=Xa hc;have HP:=Xa hp;have HS:=Xa hs;have HO:=Xa ho;have hU:=Xa hK;clear h hl hc hp hs ho hK;go_enter Tryz.func134,Tryz.ntmps134;go_wp2_with fail;go_loopw [5,8] (λ_ v wr=>∃(i m:Nat) (pre:List Int),v=.int .i64 i/\i<=offs.length/\Hid (pre.length=i)/\Hid (Rd0 rb tv L m rest wr)/\Hid (JP u wr rb sb)/\Hid (XC (L.drop m))/\Hid (QL offs.length (L.drop n) pre (offs.length-i) (L.drop m))/\Hid (wr.heap[sb]? =some (.cells (Xdj cur offs pre) ty (0,0)))) (λ_ v _=>offs.length-(intOf v).toNat)
 case atStart=>exact⟨0,n,[],rfl,Nat.zero_le _,Xa rfl,HH,Xa (JP.refl _ _ _),HL,Xa (QL.refl _ _),Xa (by rw[Xm3];exact HS.out)⟩
 case round=>
  obtain⟨i,m,pre,rfl,hi,hpre,hm,hD,h5,hL,hH⟩:=hrel;by_cases hV:i<offs.length
  ·obtain⟨o,ho⟩:∃o,offs[i]? =some o:=⟨offs[i],lgE hV⟩
   have hW:wr.cell? ⟨pb,po+i,none⟩=some (.pointer (some ⟨sb,o,none⟩)):=(World.cell?_of_block (a:=⟨pb,po+i,none⟩) (hD.out.block pb hT hQ hR)).trans (HP.out i o ho);have KN:=Xa (XeZ hm.out h5.out hG hO (HC.out.grown2 hD.out hP));have hM:=Xa ho;clear ho;go_wp2_with fail;refine KN.out.mono ?_;rintro e w1 ⟨hg,hx⟩;have HG:=Xa hg;have HX:=Xa hx;clear hg hx;obtain⟨k,hk⟩:∃k,offs.length-i=k+1:=⟨offs.length-i-1,by omega⟩
   have hC:=hL.out;rw[hk] at hC;cases hv:Y2 (L.drop m) with
   |error q=>
    have h1:=HX.out;rw[hv] at h1;simp only at h1;subst h1;exact⟨rfl,hD.out.more HG.out,by rw[hC.err hv]⟩
   |ok v=>
    obtain⟨a,r⟩:=v;have h1:=HX.out;rw[hv] at h1;obtain⟨rfl,m',h2,h3⟩:=h1;have hI:=(XiC (L.drop m)) h5.out;rw[hv] at hI;have H5:=Xa (show XC (L.drop m') by rw[h2];exact hI.2);have hX:=Xa (show QL offs.length (L.drop n) (pre++[a]) k (L.drop m') by rw[h2];exact hC.step hv);have hY:=Xa h3;have hN:o<(Xdj cur offs pre).size:=by rw[XkC];exact HO.out o (lmg hM.out)
    have hE:w1.heap[sb]? =some (.cells (Xdj cur offs pre) ty (0,0)):=(HG.out.block sb (agS hH.out).1 (λe=>hJ (by injection e))).trans hH.out;obtain⟨cv,hZ⟩:∃cv,w1.cell? ⟨sb,o,none⟩=some cv:=⟨_,(Joins.cell_of_block hE o).trans (Array.getElem?_eq_getElem hN)⟩
    have pA:=Xe hE o;have HB:=Xa (show(w1.setCell ⟨sb,o,none⟩ (.int .i64 a)).heap[sb]? =some (.cells (Xdj cur offs (pre++[a])) ty (0,0)) by rw[XkB _ _ _ _ (by rw[hpre.out];exact hM.out)];exact Xx hE _);clear hC hI h2 h3 hN hE hv HX hW;go_wp2_with fail;refine⟨⟨i+1,m',pre++[a],by go_num,by omega,Xa (by simp[hpre.out]),Xa (hY.out.putOther hJ hU.out _ _),Xa ((hD.out.more HG.out).put _ _),H5,Xa (by rw[show offs.length-(i+1)=k by omega];exact hX.out),HB⟩,by simp[intOf];omega⟩
  ·go_wp2_with fail;go_end0;have he:i=offs.length:=by omega
   have h0:=hL.out;rw[he,Nat.sub_self] at h0;refine⟨hD.out,?_⟩;rw[h0.done];exact⟨rfl,hH.out,m,rfl,hm.out⟩
end Go.Proofs.YtdcahhbipeaggaaGreatDoor
namespace Go.Proofs.YtdcahhbipeaggaaGreatDoor
open Go.RowKit
structure Xn where
 name:ByteArray
 after:ByteArray
 link:Int
 aL:Int
 aD:Sl Xw
 crew:Int
 power:Int
def Xw.cells(m:Xw):List Value:=[.string m.set,.int .i64 m.to,.int .i64 m.aK,.int .i64 m.rise,.int .i64 m.fall]
def Xn.cells(q:Xn):List Value:=[.string q.name,.string q.after,.int .i64 q.link,.int .i64 q.aL,q.aD.val,.int .i64 q.crew,.int .i64 q.power]
def X5(p:ByteArray×ByteArray):List Value:=[.string p.1,.string p.2]
def Xd.pl(s:Xd):Yi:=⟨s.name,s.depth,s.low,s.high,s.length,s.aG.l,s.aM,s.aN,s.aI,s.most,s.aJ,s.aF.l,s.aE.l⟩
def Xn.pl(q:Xn):XW:=⟨q.name,q.after,q.link,q.aL,q.aD.l,q.crew,q.power⟩
structure Row where
 e:TypeId
 size:Nat
 v:Value
 n:Nat
 xs:List Value
def Row.lies(base:Nat)(w:World)(r:Row):Prop:=w.ownsRow base r.e r.size r.v r.n r.xs
def Sep(a b:Row):Prop:=∀k,a.v.ownBlock=some k->b.v.ownBlock≠some k
theorem Sep.symm{a b:Row}(h:Sep a b):Sep b a:=λk h1 h2=>h k h2 h1
structure Rows(base:Nat)(w:World)(rs:List Row):Prop where
 all:∀r∈rs,r.lies base w
 sep:rs.Pairwise Sep
theorem Row.lies.kept{base:Nat}{w w':World}{r:Row}{row:Option Nat}(h:r.lies base w)(hg:w.grownBy w' row)(hC:r.v.ownBlock=none\/r.v.ownBlock≠row):r.lies base w':=World.ownsRow.kept h hg hC
theorem Rows.kept{base:Nat}{w w':World}{rs:List Row}{row:Option Nat}(h:Rows base w rs)(hg:w.grownBy w' row)(hr:∀k,row=some k->k<base):Rows base w' rs:=by
 refine⟨λr hm=>(h.all r hm).kept hg ?_,h.sep⟩;cases hv:r.v.ownBlock with
 |none=>exact Or.inl rfl
 |some k=>exact Or.inr λe=>by have h1:=hr k e.symm;have h2:=World.ownsRow.lt (h.all r hm) k hv;omega
theorem Rows.turn{base:Nat}{w w':World}{A B:List Row}{r r':Row}(h:Rows base w (A++r::B))(hr:r'.lies base w')(hg:w.grownBy w' r.v.ownBlock)(hb:∀k,r'.v.ownBlock=some k->r.v.ownBlock=some k\/w.heap.size<=k):Rows base w' (A++r'::B):=by
 have hp:=List.pairwise_append.1 h.sep;have hq:=List.pairwise_cons.1 hp.2.1
 have keep:∀o:Row,o∈A++r::B->Sep o r->o.lies base w':=λo ho hs=>(h.all o ho).kept hg (by
  cases hv:o.v.ownBlock with
  |none=>exact Or.inl rfl
  |some k=>exact Or.inr λe=>hs k hv e.symm)
 have sep:∀o:Row,o∈A++r::B->Sep o r->Sep o r':=λo ho hs k hk h'=>by
  rcases hb k h' with h1|h1
  ·exact hs k hk h1
  ·have h2:=World.ownsRow.lt (h.all o ho) k hk;omega
 refine⟨λo ho=> ?_,List.pairwise_append.2 ⟨hp.1,List.pairwise_cons.2 ⟨λo ho=>(sep o (by simp[ho]) (hq.1 o ho).symm).symm,hq.2⟩,λa ha b hC=> ?_⟩⟩
 ·rcases List.mem_append.1 ho with h1|h1
  ·exact keep o (by simp[h1]) (hp.2.2 o h1 r (by simp))
  ·rcases List.mem_cons.1 h1 with rfl|h2
   ·exact hr
   ·exact keep o (by simp[h2]) (hq.1 o h2).symm
 ·rcases List.mem_cons.1 hC with rfl|h2
  ·exact sep a (by simp[ha]) (hp.2.2 a ha r (by simp))
  ·exact hp.2.2 a ha b (by simp[h2])
theorem Rows.perm{base:Nat}{w:World}{rs ss:List Row}(h:Rows base w rs)(hp:rs.Perm ss):Rows base w ss:=
 ⟨λr hr=>h.all r (hp.mem_iff.2 hr),hp.pairwise_iff (λh=>h.symm)|>.1 h.sep⟩
theorem Rows.nil_cons{base:Nat}{w:World}{rs:List Row}(h:Rows base w rs)(e:TypeId)(size:Nat):Rows base w (⟨e,size,.slice none 0 0,0,[]⟩::rs):=
 ⟨λr hr=>by rcases List.mem_cons.1 hr with rfl|h2;exact World.ownsRow_nil _ _ _ _;exact h.all r h2,List.pairwise_cons.2 ⟨λ_ _ k hk=>by simp[Value.ownBlock] at hk,h.sep⟩⟩
def Xd.rows(s:Xd):List Row:=[⟨3,1,s.aG.val,s.aG.l.length,s.aG.l.flatMap Xj⟩,⟨86,7,s.aF.val,s.aF.l.length,s.aF.l.flatMap Xu.cells⟩,⟨88,3,s.aE.val,s.aE.l.length,s.aE.l.flatMap Xo.cells⟩]
def Xn.rows(q:Xn):List Row:=[⟨72,5,q.aD.val,q.aD.l.length,q.aD.l.flatMap Xw.cells⟩]
def XE(S:Sl Xd)(R:Sl Xt)(C:Sl Xn)(A:Sl (ByteArray×ByteArray)):List Row:=
 ⟨57,13,S.val,S.l.length,S.l.flatMap Xd.cells⟩::⟨67,4,R.val,R.l.length,R.l.flatMap Xt.cells⟩::⟨70,7,C.val,C.l.length,C.l.flatMap Xn.cells⟩::⟨73,2,A.val,A.l.length,A.l.flatMap X5⟩::(S.l.flatMap Xd.rows++C.l.flatMap Xn.rows)
def Ya(nm:ByteArray)(ht:Int)(S:Sl Xd)(R:Sl Xt)(C:Sl Xn)(A:Sl (ByteArray×ByteArray)):List Value:=[.string nm,.int .i64 ht,S.val,R.val,C.val,A.val]
structure RIn(rb:Nat)(tv:Value)(L:List Xh)(n:Nat)(nm:ByteArray)(ht:Int)(S:Sl Xd)(R:Sl Xt)(C:Sl Xn)(A:Sl (ByteArray×ByteArray))(x:World):Prop where
 rd:Rd0 rb tv L n (Ya nm ht S R C A) x
 rows:Rows (rb+1) x (XE S R C A)
 low:∀tb cap,tv=.slice (some ⟨tb,0,none⟩) L.length cap->tb<rb
 cnt:∀r∈XE S R C A,r.n<=n
def RSt(rb:Nat)(tv:Value)(L:List Xh)(n:Nat)(h:Xl)(c:Xp)(x:World):Prop:=
 ∃(S:Sl Xd) (R:Sl Xt) (C:Sl Xn) (A:Sl (ByteArray×ByteArray)),RIn rb tv L n h.name h.aH S R C A x/\S.l.map Xd.pl=h.aA/\R.l=h.aB/\C.l.map Xn.pl=c.aC/\A.l=c.apart
theorem RIn.kept{rb n m:Nat}{tv:Value}{L:List Xh}{nm:ByteArray}{ht:Int}{S:Sl Xd}{R:Sl Xt}{C:Sl Xn}{A:Sl (ByteArray×ByteArray)}{x y:World}(h:RIn rb tv L n nm ht S R C A x)(hg:x.grownBy y (some rb))(hr:Rd0 rb tv L m (Ya nm ht S R C A) y)(hC:n<=m):RIn rb tv L m nm ht S R C A y:=
 ⟨hr,h.rows.kept hg (λk hk=>by injection hk with hk;omega),h.low,λr hm=>Nat.le_trans (h.cnt r hm) hC⟩
def JM(rb:Nat)(tv:Value)(L:List Xh)(x:Rd (Xl×Xp))(u:World)(e:Ending)(w':World):Prop:=
 Below rb u w'/\match x with
  |.ok (a,r)=>e=.returned (.tuple #[])/\∃n,L.drop n=r/\RSt rb tv L n a.1 a.2 w'
  |.error q=>e=.panicked [{v:=.iface 170 (.agg #[.int .i64 q.1,.int .i64 q.2]),recovered:=false}]
open Go Go.RowKit in
theorem bxcu(w:World)(x:Xn):∃W:World,W=w.alloc (.cells #[.string x.name,.string x.after,.int .i64 x.link,.int .i64 x.aL,.slice x.aD.A x.aD.l.length x.aD.cap,.int .i64 x.crew,.int .i64 x.power] 70)/\W.heap.size=w.heap.size+1/\Below w.heap.size w W/\W.heap[w.heap.size]? =some (.cells #[.string x.name,.string x.after,.int .i64 x.link,.int .i64 x.aL,.slice x.aD.A x.aD.l.length x.aD.cap,.int .i64 x.crew,.int .i64 x.power] 70):=boxed w _
end Go.Proofs.YtdcahhbipeaggaaGreatDoor
namespace Go.Proofs.YtdcahhbipeaggaaGreatDoor
open Go.RowKit
theorem Jf{w:World}{base:Nat}{e:TypeId}{size n:Nat}{A:Option Addr}{cap:Nat}{xs:List Value}(h:w.ownsRow base e size (.slice A n cap) n xs):(A=none/\cap=0/\n=0)\/∃g cur,A=some ⟨g,0,none⟩/\base<=g/\w.heap[g]? =some (.cells cur e (0,0))/\n<=cap/\cap<=maxLen/\cur.size=cap*size/\cur.toList.take (n*size)=xs:=by
 rcases h.2 with ⟨h1,h2⟩|⟨g,c,cur,h1,h2,h3,h4,h5,h6,h7⟩
 ·injection h1 with a b c;exact Or.inl ⟨a,c,h2⟩
 ·injection h1 with a b c';subst a;subst c';exact Or.inr ⟨g,cur,rfl,h2,h3,h4,h5,h6,h7⟩
theorem Rd0.cellr{rb:Nat}{tv:Value}{L:List Xh}{n:Nat}{rest:List Value}{x:World}(h:Rd0 rb tv L n rest x)(j:Nat):x.cell? ⟨rb,j+2,none⟩=rest[j]? :=(Joins.cell_of_block h.box (j+2)).trans (by simp)
theorem RIn.aA{rb n:Nat}{tv:Value}{L:List Xh}{nm:ByteArray}{ht:Int}{S:Sl Xd}{R:Sl Xt}{C:Sl Xn}{A:Sl (ByteArray×ByteArray)}{x:World}(h:RIn rb tv L n nm ht S R C A x):x.ownsRow (rb+1) 57 13 S.val S.l.length (S.l.flatMap Xd.cells):=h.rows.all ⟨57,13,S.val,S.l.length,S.l.flatMap Xd.cells⟩ (by unfold XE;exact List.mem_cons_self)
theorem Xnr{rb n:Nat}{tv:Value}{L:List Xh}{nm:ByteArray}{ht:Int}{S:Sl Xd}{R:Sl Xt}{C:Sl Xn}{A:Sl (ByteArray×ByteArray)}{u:World}(h:RIn rb tv L (n+1) nm ht S R C A u){t:Xh}(hD:L[n]? =some t)(hH:L.length<=1000000):
 Calls Tryz.prog 176 #[.pointer (some ⟨rb,0,none⟩)] u λe w'=>
  (S.l=[]->u.grownBy w' (some rb)/\e=.panicked [{v:=.iface 170 (.agg #[.int .i64 t.line,.int .i64 t.col]),recovered:=false}])/\
  (∀m,S.l.length=m+1->∃g,S.A=some ⟨g,0,none⟩/\e=.returned (.pointer (some ⟨g,m*13,none⟩))/\∃z:Xb u.heap.size u,w'=z.val):=by
 have hL:=(lgS hD).1;have HH:=Xa h;have c4:∀z:Xb u.heap.size u,z.val.cell? ⟨rb,4,none⟩=some (.slice S.A S.l.length S.cap):=λz=>((h.rd.more z.below).cellr 2).trans rfl;have c1:=λz:Xb u.heap.size u=>(h.rd.more z.below).cell1;have f1:=λz:Xb u.heap.size u=>(h.rd.more z.below).free 1;have c4u:u.cell? ⟨rb,4,none⟩=some (.slice S.A S.l.length S.cap):=c4 (Xb.refl _ _);have c1u:=h.rd.cell1;have f1u:=h.rd.free 1;have hM:=h.rd.lt;have hC:=Jf h.aA;have hN:((n+1:Nat):Int)-1=(n:Int):=by omega
 have hO:(n:Int)<=1000000:=by omega
 have HT:=Xa hD;clear hD h;obtain⟨k,hk⟩:∃k,S.l.length=k:=⟨_,rfl⟩
 cases k with
 |zero=>
  have hP:S.l=[]:=List.eq_nil_of_length_eq_zero hk;rw[hk] at c4u;clear c4 c1 f1;clear hC;have hG:=HH.out.rd.setAt n;have KF:=Xa (Xf9 hG HT.out);have HG:=Xa (XX (w:=u) (World.grownBy.refl u (some rb)) (i:=1) (v:=.int .i64 (n:Int)));clear hG;go_enter Tryz.func176,Tryz.ntmps176;go_wp2_with fail;refine KF.out.mono ?_;rintro e w1 ⟨rfl,hb⟩;exact⟨rfl,λ_=>⟨Yj HG.out hb,rfl⟩,λm hm=>by omega⟩
 |succ m=>
  obtain⟨g,cur,hA,hQ,hI,hR,hJ,hK,hE⟩:∃g cur,S.A=some ⟨g,0,none⟩/\rb+1<=g/\u.heap[g]? =some (.cells cur 57 (0,0))/\S.l.length<=S.cap/\S.cap<=maxLen/\cur.size=S.cap*13/\cur.toList.take (S.l.length*13)=S.l.flatMap Xd.cells:=by
   rcases hC with ⟨_,_,h0⟩|h1
   ·omega
   ·exact h1
  clear hC;unfold maxLen at hJ;rw[hk,hA] at c4;rw[hk,hA] at c4u;have hT:((m+1:Nat):Int)-1=(m:Int):=by omega
  have hU:(0:Int)<=(m:Int):=by omega
  have hV:(m:Int)<((m+1:Nat):Int):=by omega
  go_enter Tryz.func176,Tryz.ntmps176;go_wp2_with fail;clear c4 c1 f1 c1u f1u hE hK hI;go_region;go_wp2_with fail;go_ret;refine⟨λh0=>by rw[h0] at hk;simp at hk,λm' hW=>⟨g,hA,?_,Xb.exists_iff (Below.refl _ u).drew⟩⟩;rw[show m'=m by omega];rfl
end Go.Proofs.YtdcahhbipeaggaaGreatDoor
namespace Go.Proofs.YtdcahhbipeaggaaGreatDoor
open Go.RowKit
def Xqu(rb sb:Nat)(tv:Value)(L:List Xh)(rest:List Value)(cur:Array Value)(ty:TypeId)(offs:List Nat)(x:Rd (List Int))(u:World)(e:Ending)(w':World):Prop:=
 u.grownBy w' (some rb)/\match x with
  |.ok (l,r)=>e=.returned (.tuple #[])/\sb<w'.heap.size/\w'.heap[sb]? =some (.cells (Xdj cur offs l) ty (0,0))/\∃n,L.drop n=r/\Rd0 rb tv L n rest w'
  |.error q=>e=.panicked [{v:=.iface 170 (.agg #[.int .i64 q.1,.int .i64 q.2]),recovered:=false}]
theorem XfC{rb n:Nat}{tv:Value}{L:List Xh}{rest:List Value}{w w0:World}{cur:Array Value}{ty:TypeId}(offs:List Nat)(h:Rd0 rb tv L n rest w)(hH:∀tb cap,tv=.slice (some ⟨tb,0,none⟩) L.length cap->tb<rb)(hl:XC (L.drop n))(hC:L.length<=1000000)(hI:∀t∈L,t.text.size<=1000000)(hc:Ctx w0 rb w)
 (ho:∀o∈offs,o<cur.size) (h9:offs.length<=9) (tp:TypeId) (ptrs:Array Value) (hp:ptrs.toList=offs.map λo=> .pointer (some ⟨w.heap.size,o,none⟩)) (pc:Nat):
 Calls Tryz.prog 134 #[.pointer (some ⟨rb,0,none⟩),.slice (some ⟨w.heap.size+1,0,none⟩) offs.length pc] ((w.alloc (.cells cur ty (0,0))).alloc (.cells ptrs tp (0,0))) (Xqu rb w.heap.size tv L rest cur ty offs (XY offs.length (L.drop n)) w):=by
 obtain⟨V,hV,hJ,hK,hL⟩:=boxed w (.cells cur ty (0,0));obtain⟨U,hU,hM,hE,hG⟩:=boxed V (.cells ptrs tp (0,0));rw[hJ] at hG;have hD:Below w.heap.size w U:=hK.trans (hE.mono (by omega));have hN:=h.lt;have hO:=hc.lo;have hlen:offs.length=ptrs.size:=by rw[<-Array.length_toList,hp,List.length_map]
 have KN:=Xhb (pb:=w.heap.size+1) (po:=0) (pc:=pc) (sb:=w.heap.size) offs (h.more hD) hl hC hI ⟨hc.tabs,hc.bel.trans (hD.mono hc.bel.size),hc.lo⟩ (by omega) (by omega)
  (λtb cap e=>by have:=hH tb cap e;omega) (by omega) (by omega) (by omega) ((hE.block _ (by omega)).trans hL) ho h9
  (λi o hi=>by
    rw[Nat.zero_add,Joins.cell_of_block hG i,<-Array.getElem?_toList,hp,List.getElem?_map,hi];rfl)
 rw[<-hV,<-hU];refine KN.mono ?_;rintro e w' ⟨hg,hx⟩;refine⟨hg.one (XD hD) nr,?_⟩;cases hn:XY offs.length (L.drop n) with
 |error q=>rw[hn] at hx;exact hx
 |ok v=>
  obtain⟨l,r⟩:=v;rw[hn] at hx;exact⟨hx.1,(agS hx.2.1).1,hx.2.1,hx.2.2⟩
end Go.Proofs.YtdcahhbipeaggaaGreatDoor
namespace Go.Proofs.YtdcahhbipeaggaaGreatDoor
open Go.RowKit
theorem Xcb{α:Type}{cells:α->List Value}{size:Nat}(hs:∀x,(cells x).length=size):∀l:List α,(l.flatMap cells).length=l.length*size
 |[]=>by simp
 |x::l=>by rw[List.flatMap_cons,List.length_append,hs,Xcb hs l,List.length_cons,Nat.add_mul,Nat.one_mul,Nat.add_comm]
theorem Xk2{α:Type}{cells:α->List Value}{size:Nat}(hs:∀x,(cells x).length=size)(l:List α)(x:α)(j:Nat):((l++[x]).flatMap cells)[l.length*size+j]? =(cells x)[j]? :=by
 rw[List.flatMap_append,List.getElem?_append_right (by rw[Xcb hs];omega),Xcb hs];simp
theorem Xi5{α:Type}{cells:α->List Value}{size:Nat}(hs:∀x,(cells x).length=size)(l:List α){x y:α}{j:Nat}{v:Value}(h:cells y=(cells x).set j v):((l++[x]).flatMap cells).set (l.length*size+j) v=(l++[y]).flatMap cells:=by
 rw[List.flatMap_append,List.set_append_right _ _ (by rw[Xcb hs];omega),Xcb hs,List.flatMap_append];congr 1;simp[h]
theorem XlE{w:World}{base:Nat}{e:TypeId}{size n g cap:Nat}{xs:List Value}(h:w.ownsRow base e size (.slice (some ⟨g,0,none⟩) n cap) n xs){i:Nat}(v:Value):(w.setCell ⟨g,i,none⟩ v).ownsRow base e size (.slice (some ⟨g,0,none⟩) n cap) n (xs.set i v):=by
 rcases Jf h with ⟨h1,_⟩|⟨g',cur,h1,h2,h3,h4,h5,h6,h7⟩
 ·cases h1
 ·injection h1 with h1;injection h1 with h1;subst h1;refine⟨by rw[List.length_set];exact h.1,Or.inr ⟨g,cap,cur.setIfInBounds i v,rfl,h2,Xx h3 v,h4,h5,by simp[h6],?_⟩⟩;rw[Array.toList_setIfInBounds,<-h7,List.take_set]
theorem Rd0.low{rb:Nat}{tv:Value}{L:List Xh}{n:Nat}{rest:List Value}{x y:World}(h:Rd0 rb tv L n rest x)(hl:∀tb cap,tv=.slice (some ⟨tb,0,none⟩) L.length cap->tb<rb)(hb:Below (rb+1) x y):Rd0 rb tv L n rest y:=by
 obtain⟨tb,cap,h1,h2,h3,h4,h5,h6⟩:=h.toks;have h7:=hl tb cap h1;exact⟨(hb.block rb (by omega)).trans h.box,tb,cap,h1,h2,h3,h4,Nat.lt_of_lt_of_le h5 hb.size,λi t hi j u hu=>(World.cell?_of_block (a:=⟨tb,i*4+j,none⟩) (hb.block tb (by omega))).trans (h6 i t hi j u hu)⟩
theorem XbI(x:Xd):x.cells.length=13:=rfl
theorem XeH(x:Xn):x.cells.length=7:=rfl
def Jl(s:Xd)(A:Option Addr)(cap:Nat)(x:Xu):Xd:={s with aF:=⟨A,cap,s.aF.l++[x]⟩}
section
variable {rb n:Nat} {tv:Value} {L:List Xh} {nm:ByteArray} {ht:Int} {S:Sl Xd} {R:Sl Xt} {C:Sl Xn} {A:Sl (ByteArray×ByteArray)} {w:World} {S0:List Xd} {s:Xd}
theorem ZV(hS:S.l=S0++[s]):XE S R C A=(⟨57,13,S.val,S.l.length,S.l.flatMap Xd.cells⟩::⟨67,4,R.val,R.l.length,R.l.flatMap Xt.cells⟩::⟨70,7,C.val,C.l.length,C.l.flatMap Xn.cells⟩::⟨73,2,A.val,A.l.length,A.l.flatMap X5⟩::(S0.flatMap Xd.rows++[⟨3,1,s.aG.val,s.aG.l.length,s.aG.l.flatMap Xj⟩]))++⟨86,7,s.aF.val,s.aF.l.length,s.aF.l.flatMap Xu.cells⟩::(⟨88,3,s.aE.val,s.aE.l.length,s.aE.l.flatMap Xo.cells⟩::C.l.flatMap Xn.rows):=by
 simp[XE,hS,Xd.rows]
theorem RIn.aF(h:RIn rb tv L n nm ht S R C A w)(hS:S.l=S0++[s]):w.ownsRow (rb+1) 86 7 s.aF.val s.aF.l.length (s.aF.l.flatMap Xu.cells)/\s.aF.l.length<=n:=by
 have hm:(⟨86,7,s.aF.val,s.aF.l.length,s.aF.l.flatMap Xu.cells⟩:Row)∈XE S R C A:=by rw[ZV hS];simp
 exact⟨h.rows.all _ hm,h.cnt _ hm⟩
theorem RIn.lastSet(h:RIn rb tv L n nm ht S R C A w)(hS:S.l=S0++[s]){g:Nat}(hA:S.A=some ⟨g,0,none⟩):rb+1<=g/\g<w.heap.size/\(∃cur,w.heap[g]? =some (.cells cur 57 (0,0)))/\∀j u,s.cells[j]? =some u->w.cell? ⟨g,S0.length*13+j,none⟩=some u:=by
 have h1:=h.aA;rw[Sl.val,hA] at h1;have h2:=World.ownsRow.lt h1 g rfl;refine⟨h2.1,h2.2,?_,λj u hu=> ?_⟩
 ·rcases Jf h1 with ⟨h3,_⟩|⟨g',cur,h3,_,h4,_⟩
  ·cases h3
  ·injection h3 with h3;injection h3 with h3;subst h3;exact⟨cur,h4⟩
 ·have h3:=World.ownsRow.cells h1 (g:=g) rfl (S0.length*13+j) u (by rw[hS,Xk2 XbI];exact hu)
  rwa [show(⟨g,0,none⟩:Addr).add (S0.length*13+j)=⟨g,S0.length*13+j,none⟩ by unfold Addr.add;split<;>simp_all] at h3
theorem RIn.addItem(h:RIn rb tv L n nm ht S R C A w)(hS:S.l=S0++[s]){g:Nat}(hA:S.A=some ⟨g,0,none⟩){w':World}{g4 cap4:Nat}{x:Xu}{o:Obj}
 (hI:w'.ownsRow (rb+1) 86 7 (.slice (some ⟨g4,0,none⟩) (s.aF.l.length+1) cap4) (s.aF.l.length+1) (s.aF.l.flatMap Xu.cells++x.cells)) (hJ:(w.alloc o).grownBy w' s.aF.val.ownBlock) (hO:s.aF.val.ownBlock=some g4\/g4=w.heap.size+1) (hn:s.aF.l.length+1<=n):
 (∃v,w'.cell? ⟨g,S0.length*13+11,none⟩=some v)/\w'.frozen? ⟨g,S0.length*13+11,none⟩=false/\Below (rb+1) w (w'.setCell ⟨g,S0.length*13+11,none⟩ (.slice (some ⟨g4,0,none⟩) (s.aF.l.length+1) cap4))/\
 RIn rb tv L n nm ht ⟨S.A,S.cap,S0++[Jl s (some ⟨g4,0,none⟩) cap4 x]⟩ R C A (w'.setCell ⟨g,S0.length*13+11,none⟩ (.slice (some ⟨g4,0,none⟩) (s.aF.l.length+1) cap4)):=by
 obtain⟨hP,hQ,⟨cur,hN⟩,hE⟩:=h.lastSet hS hA;have hC:=h.rows;rw[ZV hS] at hC;have hK:∀k,s.aF.val.ownBlock=some k->k≠g:=by
  have h1:=h.rows.sep;rw[ZV hS,List.cons_append,List.pairwise_cons] at h1;have h2:=h1.1 ⟨86,7,s.aF.val,s.aF.l.length,s.aF.l.flatMap Xu.cells⟩ (by simp);intro k hk e;subst e;exact h2 k (by rw[Sl.val,hA];rfl) hk
 have hG:w'.heap[g]? =some (.cells cur 57 (0,0)):=by
  rw[hJ.block g (by simp;omega) (λe=>hK g e.symm rfl),heap_alloc_old w o hQ];exact hN
 have hL:Below (rb+1) w w':=by
  have hR:=World.ownsRow.lt (h.aF hS).1;exact Below.grown ((Below.refl (rb+1) w).alloc (by have:=h.rd.lt;omega) o) hJ (by have:=h.rd.lt;simp;omega) (λk hk=>(hR k hk).1)
 have hD:Below (rb+1) w (w'.setCell ⟨g,S0.length*13+11,none⟩ (.slice (some ⟨g4,0,none⟩) (s.aF.l.length+1) cap4)):=hL.setCell (p:=⟨g,S0.length*13+11,none⟩) hP _;have hM:w'.cell? ⟨g,S0.length*13+11,none⟩=some s.aF.val:=(World.cell?_of_block (a:=⟨g,S0.length*13+11,none⟩) (hG.trans hN.symm)).trans (hE 11 _ rfl);refine⟨⟨_,hM⟩,Xe hG _,hD,(show Ya nm ht ⟨S.A,S.cap,S0++[Jl s (some ⟨g4,0,none⟩) cap4 x]⟩ R C A=Ya nm ht S R C A by simp[Ya,Sl.val,hS])▸h.rd.low h.low hD,?_,h.low,?_⟩
 ·have ha:Rows (rb+1) (w.alloc o) _:=hC.kept (row:=none) (World.grownBy_alloc w o none) (λk hk=>by cases hk)
  have h1:=ha.turn (r':=⟨86,7,.slice (some ⟨g4,0,none⟩) (s.aF.l.length+1) cap4,s.aF.l.length+1,s.aF.l.flatMap Xu.cells++x.cells⟩) hI hJ (λk hk=>by
   have hT:g4=k:=by simpa[Value.ownBlock] using hk
   subst hT;rcases hO with h5|h5
   ·exact Or.inl h5
   ·exact Or.inr (by simp;omega))
  have hH:=(h1.all ⟨57,13,S.val,S.l.length,S.l.flatMap Xd.cells⟩ (by simp))
  have h2:=Rows.turn (A:=[]) (r:=⟨57,13,S.val,S.l.length,S.l.flatMap Xd.cells⟩) h1 (r':=⟨57,13,S.val,S.l.length,(S.l.flatMap Xd.cells).set (S0.length*13+11) (.slice (some ⟨g4,0,none⟩) (s.aF.l.length+1) cap4)⟩) (by
   unfold Row.lies at hH ⊢;simp only at hH ⊢;rw[Sl.val,hA] at hH ⊢
   exact XlE hH _) (by
   rw[Sl.val,hA]
   exact XX (World.grownBy.refl _ _)) (λk hk=>Or.inl hk)
  have he:(S.l.flatMap Xd.cells).set (S0.length*13+11) (.slice (some ⟨g4,0,none⟩) (s.aF.l.length+1) cap4)=(S0++[Jl s (some ⟨g4,0,none⟩) cap4 x]).flatMap Xd.cells:=by
   rw[hS];exact Xi5 XbI S0 (by simp[Jl,Xd.cells])
  rw[he] at h2;rw[ZV (S0:=S0) (s:=Jl s (some ⟨g4,0,none⟩) cap4 x) rfl];simpa[Jl,Sl.val,hS] using h2
 ·intro r hr;rw[ZV (S0:=S0) (s:=Jl s (some ⟨g4,0,none⟩) cap4 x) rfl] at hr;have h3:=h.cnt;rw[ZV hS] at h3;simp only[List.mem_append,List.mem_cons,Jl,List.cons_append] at hr h3;rcases hr with rfl|hr
  ·have:=h3 _ (Or.inl rfl);simp only[hS,List.length_append] at this ⊢;exact this
  ·rcases hr with rfl|hr
   ·exact h3 _ (by simp)
   rcases hr with rfl|hr
   ·exact h3 _ (by simp)
   rcases hr with rfl|hr
   ·exact h3 _ (by simp)
   rcases hr with hr|hr
   ·rcases hr with hr|rfl|hr
    ·exact h3 r (by simp only[hr];simp)
    ·exact h3 _ (by simp)
    ·cases hr
   ·rcases hr with rfl|rfl|hr
    ·simpa using hn
    ·exact h3 _ (by simp)
    ·exact h3 r (by simp only[hr];simp)
end
end Go.Proofs.YtdcahhbipeaggaaGreatDoor
namespace Go.Proofs.YtdcahhbipeaggaaGreatDoor
open Go.RowKit
def Jk(q:Xn)(A:Option Addr)(cap:Nat)(x:Xw):Xn:={q with aD:=⟨A,cap,q.aD.l++[x]⟩}
section
variable {rb n:Nat} {tv:Value} {L:List Xh} {nm:ByteArray} {ht:Int} {S:Sl Xd} {R:Sl Xt} {C:Sl Xn} {A:Sl (ByteArray×ByteArray)} {w:World} {C0:List Xn} {q:Xn}
theorem ZU(hC:C.l=C0++[q]):XE S R C A=(⟨57,13,S.val,S.l.length,S.l.flatMap Xd.cells⟩::⟨67,4,R.val,R.l.length,R.l.flatMap Xt.cells⟩::⟨70,7,C.val,C.l.length,C.l.flatMap Xn.cells⟩::⟨73,2,A.val,A.l.length,A.l.flatMap X5⟩::(S.l.flatMap Xd.rows++C0.flatMap Xn.rows))++⟨72,5,q.aD.val,q.aD.l.length,q.aD.l.flatMap Xw.cells⟩::[]:=by
 simp[XE,hC,Xn.rows]
theorem RIn.aD(h:RIn rb tv L n nm ht S R C A w)(hC:C.l=C0++[q]):w.ownsRow (rb+1) 72 5 q.aD.val q.aD.l.length (q.aD.l.flatMap Xw.cells)/\q.aD.l.length<=n:=by
 have hm:(⟨72,5,q.aD.val,q.aD.l.length,q.aD.l.flatMap Xw.cells⟩:Row)∈XE S R C A:=by rw[ZU hC];simp
 exact⟨h.rows.all _ hm,h.cnt _ hm⟩
theorem RIn.aC(h:RIn rb tv L n nm ht S R C A w):w.ownsRow (rb+1) 70 7 C.val C.l.length (C.l.flatMap Xn.cells)/\C.l.length<=n:=by
 have hm:(⟨70,7,C.val,C.l.length,C.l.flatMap Xn.cells⟩:Row)∈XE S R C A:=by unfold XE;simp
 exact⟨h.rows.all _ hm,h.cnt _ hm⟩
theorem RIn.lastCue(h:RIn rb tv L n nm ht S R C A w)(hC:C.l=C0++[q]){g:Nat}(hA:C.A=some ⟨g,0,none⟩):rb+1<=g/\g<w.heap.size/\(∃cur,w.heap[g]? =some (.cells cur 70 (0,0)))/\∀j u,q.cells[j]? =some u->w.cell? ⟨g,C0.length*7+j,none⟩=some u:=by
 have h1:=h.aC.1;rw[Sl.val,hA] at h1;have h2:=World.ownsRow.lt h1 g rfl;refine⟨h2.1,h2.2,?_,λj u hu=> ?_⟩
 ·rcases Jf h1 with ⟨h3,_⟩|⟨g',cur,h3,_,h4,_⟩
  ·cases h3
  ·injection h3 with h3;injection h3 with h3;subst h3;exact⟨cur,h4⟩
 ·have h3:=World.ownsRow.cells h1 (g:=g) rfl (C0.length*7+j) u (by rw[hC,Xk2 XeH];exact hu)
  rwa [show(⟨g,0,none⟩:Addr).add (C0.length*7+j)=⟨g,C0.length*7+j,none⟩ by unfold Addr.add;split<;>simp_all] at h3
theorem RIn.addMove(h:RIn rb tv L n nm ht S R C A w)(hC:C.l=C0++[q]){g:Nat}(hA:C.A=some ⟨g,0,none⟩){w':World}{g4 cap4:Nat}{x:Xw}{o:Obj}
 (hJ:w'.ownsRow (rb+1) 72 5 (.slice (some ⟨g4,0,none⟩) (q.aD.l.length+1) cap4) (q.aD.l.length+1) (q.aD.l.flatMap Xw.cells++x.cells)) (hK:(w.alloc o).grownBy w' q.aD.val.ownBlock) (hP:q.aD.val.ownBlock=some g4\/g4=w.heap.size+1) (hn:q.aD.l.length+1<=n):
 (∃v,w'.cell? ⟨g,C0.length*7+4,none⟩=some v)/\w'.frozen? ⟨g,C0.length*7+4,none⟩=false/\Below (rb+1) w (w'.setCell ⟨g,C0.length*7+4,none⟩ (.slice (some ⟨g4,0,none⟩) (q.aD.l.length+1) cap4))/\
 RIn rb tv L n nm ht S R ⟨C.A,C.cap,C0++[Jk q (some ⟨g4,0,none⟩) cap4 x]⟩ A (w'.setCell ⟨g,C0.length*7+4,none⟩ (.slice (some ⟨g4,0,none⟩) (q.aD.l.length+1) cap4)):=by
 obtain⟨hQ,hR,⟨cur,hO⟩,hG⟩:=h.lastCue hC hA;have hD:=h.rows;rw[ZU hC] at hD;have hL:∀k,q.aD.val.ownBlock=some k->k≠g:=by
  have h1:=h.rows.sep;rw[ZU hC,List.cons_append,List.pairwise_cons,List.cons_append,List.pairwise_cons,List.cons_append,List.pairwise_cons] at h1;have h2:=h1.2.2.1 ⟨72,5,q.aD.val,q.aD.l.length,q.aD.l.flatMap Xw.cells⟩ (by simp);intro k hk e;subst e;exact h2 k (by rw[Sl.val,hA];rfl) hk
 have hH:w'.heap[g]? =some (.cells cur 70 (0,0)):=by
  rw[hK.block g (by simp;omega) (λe=>hL g e.symm rfl),heap_alloc_old w o hR];exact hO
 have hM:Below (rb+1) w w':=by
  have hT:=World.ownsRow.lt (h.aD hC).1;exact Below.grown ((Below.refl (rb+1) w).alloc (by have:=h.rd.lt;omega) o) hK (by have:=h.rd.lt;simp;omega) (λk hk=>(hT k hk).1)
 have hE:Below (rb+1) w (w'.setCell ⟨g,C0.length*7+4,none⟩ (.slice (some ⟨g4,0,none⟩) (q.aD.l.length+1) cap4)):=hM.setCell (p:=⟨g,C0.length*7+4,none⟩) hQ _;have hN:w'.cell? ⟨g,C0.length*7+4,none⟩=some q.aD.val:=(World.cell?_of_block (a:=⟨g,C0.length*7+4,none⟩) (hH.trans hO.symm)).trans (hG 4 _ rfl);refine⟨⟨_,hN⟩,Xe hH _,hE,(show Ya nm ht S R ⟨C.A,C.cap,C0++[Jk q (some ⟨g4,0,none⟩) cap4 x]⟩ A=Ya nm ht S R C A by simp[Ya,Sl.val,hC])▸h.rd.low h.low hE,?_,h.low,?_⟩
 ·have ha:Rows (rb+1) (w.alloc o) _:=hD.kept (row:=none) (World.grownBy_alloc w o none) (λk hk=>by cases hk)
  have h1:=ha.turn (r':=⟨72,5,.slice (some ⟨g4,0,none⟩) (q.aD.l.length+1) cap4,q.aD.l.length+1,q.aD.l.flatMap Xw.cells++x.cells⟩) hJ hK (λk hk=>by
   have hU:g4=k:=by simpa[Value.ownBlock] using hk
   subst hU;rcases hP with h5|h5
   ·exact Or.inl h5
   ·exact Or.inr (by simp;omega))
  have hI:=(h1.all ⟨70,7,C.val,C.l.length,C.l.flatMap Xn.cells⟩ (by simp))
  have h2:=Rows.turn (A:=[⟨57,13,S.val,S.l.length,S.l.flatMap Xd.cells⟩,⟨67,4,R.val,R.l.length,R.l.flatMap Xt.cells⟩]) (r:=⟨70,7,C.val,C.l.length,C.l.flatMap Xn.cells⟩) h1 (r':=⟨70,7,C.val,C.l.length,(C.l.flatMap Xn.cells).set (C0.length*7+4) (.slice (some ⟨g4,0,none⟩) (q.aD.l.length+1) cap4)⟩) (by
   unfold Row.lies at hI ⊢;simp only at hI ⊢;rw[Sl.val,hA] at hI ⊢
   exact XlE hI _) (by
   rw[Sl.val,hA]
   exact XX (World.grownBy.refl _ _)) (λk hk=>Or.inl hk)
  have he:(C.l.flatMap Xn.cells).set (C0.length*7+4) (.slice (some ⟨g4,0,none⟩) (q.aD.l.length+1) cap4)=(C0++[Jk q (some ⟨g4,0,none⟩) cap4 x]).flatMap Xn.cells:=by
   rw[hC];exact Xi5 XeH C0 (by simp[Jk,Xn.cells,Sl.val])
  rw[he] at h2;rw[ZU (C0:=C0) (q:=Jk q (some ⟨g4,0,none⟩) cap4 x) rfl];simpa[Jk,Sl.val,hC] using h2
 ·intro r hr;rw[ZU (C0:=C0) (q:=Jk q (some ⟨g4,0,none⟩) cap4 x) rfl] at hr;have h3:=h.cnt;rw[ZU hC] at h3;simp only[List.mem_append,List.mem_cons,Jk,List.cons_append] at hr h3;rcases hr with rfl|hr
  ·exact h3 _ (by simp)
  rcases hr with rfl|hr
  ·exact h3 _ (by simp)
  rcases hr with rfl|hr
  ·have:=h3 _ (Or.inr (Or.inr (Or.inl rfl)));simp only[hC,List.length_append] at this ⊢;exact this
  rcases hr with rfl|hr
  ·exact h3 _ (by simp)
  rcases hr with (hr|hr)|hr
  ·exact h3 r (by simp only[hr];simp)
  ·exact h3 r (by simp only[hr];simp)
  ·rcases hr with rfl|hr
   ·simpa using hn
   ·cases hr
end
end Go.Proofs.YtdcahhbipeaggaaGreatDoor
namespace Go.Proofs.YtdcahhbipeaggaaGreatDoor
open Go.RowKit
theorem Rd0.put{rb:Nat}{tv:Value}{L:List Xh}{n:Nat}{rest:List Value}{x:World}(h:Rd0 rb tv L n rest x)(j:Nat)(v:Value):Rd0 rb tv L n (rest.set j v) (x.setCell ⟨rb,j+2,none⟩ v):=by
 refine h.grown (XX (World.grownBy.refl x _)) ?_;rw[Xx h.box];simp
section
variable {rb n:Nat} {tv:Value} {L:List Xh} {nm:ByteArray} {ht:Int} {S:Sl Xd} {R:Sl Xt} {C:Sl Xn} {A:Sl (ByteArray×ByteArray)} {w w':World}
theorem RIn.top(h:RIn rb tv L n nm ht S R C A w){rs A1 B1:List Row}{r:Row}(hG:Rows (rb+1) w rs)(hr:rs=A1++r::B1){e:TypeId}{size k g4 cap4:Nat}{xs:List Value}{o:Obj}(hD:w'.ownsRow (rb+1) e size (.slice (some ⟨g4,0,none⟩) k cap4) k xs)(hH:(w.alloc o).grownBy w' r.v.ownBlock)(hI:r.v.ownBlock=some g4\/g4=w.heap.size+1)(j:Nat)(hj:j<6):
 (∃v,w'.cell? ⟨rb,j+2,none⟩=some v)/\w'.frozen? ⟨rb,j+2,none⟩=false/\Below rb w (w'.setCell ⟨rb,j+2,none⟩ (.slice (some ⟨g4,0,none⟩) k cap4))/\
 Rd0 rb tv L n ((Ya nm ht S R C A).set j (.slice (some ⟨g4,0,none⟩) k cap4)) (w'.setCell ⟨rb,j+2,none⟩ (.slice (some ⟨g4,0,none⟩) k cap4))/\
 Rows (rb+1) (w'.setCell ⟨rb,j+2,none⟩ (.slice (some ⟨g4,0,none⟩) k cap4)) (A1++⟨e,size,.slice (some ⟨g4,0,none⟩) k cap4,k,xs⟩::B1):=by
 subst hr;have hJ:=World.ownsRow.lt (hG.all r (by simp));have hL:=h.rd.lt;have hC:Below (rb+1) w w':=Below.grown ((Below.refl (rb+1) w).alloc (by omega) o) hH (by simp;omega) (λk hk=>(hJ k hk).1);have hE:=h.rd.low h.low hC;have ha:Rows (rb+1) (w.alloc o) _:=hG.kept (row:=none) (World.grownBy_alloc w o none) (λk hk=>by cases hk)
 have h1:=ha.turn (r':=⟨e,size,.slice (some ⟨g4,0,none⟩) k cap4,k,xs⟩) hD hH (λk hk=>by
  have hK:g4=k:=by simpa[Value.ownBlock] using hk
  subst hK;rcases hI with h5|h5
  ·exact Or.inl h5
  ·exact Or.inr (by simp;omega))
 refine⟨⟨(Ya nm ht S R C A)[j],?_⟩,hE.free _,(hC.mono (show rb<=rb+1 by omega)).setCell (p:=⟨rb,j+2,none⟩) nr _,hE.put j _,h1.kept (XX (World.grownBy.refl _ (some rb))) (λk hk=>by injection hk with hk;omega)⟩;rw[hE.cellr j];exact lgE (by simpa[Ya] using hj)
theorem RIn.aB(h:RIn rb tv L n nm ht S R C A w):w.ownsRow (rb+1) 67 4 R.val R.l.length (R.l.flatMap Xt.cells)/\R.l.length<=n:=by
 have hm:(⟨67,4,R.val,R.l.length,R.l.flatMap Xt.cells⟩:Row)∈XE S R C A:=by unfold XE;simp
 exact⟨h.rows.all _ hm,h.cnt _ hm⟩
theorem RIn.pairs(h:RIn rb tv L n nm ht S R C A w):w.ownsRow (rb+1) 73 2 A.val A.l.length (A.l.flatMap X5)/\A.l.length<=n:=by
 have hm:(⟨73,2,A.val,A.l.length,A.l.flatMap X5⟩:Row)∈XE S R C A:=by unfold XE;simp
 exact⟨h.rows.all _ hm,h.cnt _ hm⟩
theorem RIn.addRoof(h:RIn rb tv L n nm ht S R C A w){g4 cap4:Nat}{x:Xt}{o:Obj}
 (hC:w'.ownsRow (rb+1) 67 4 (.slice (some ⟨g4,0,none⟩) (R.l.length+1) cap4) (R.l.length+1) (R.l.flatMap Xt.cells++x.cells)) (hD:(w.alloc o).grownBy w' R.val.ownBlock) (hE:R.val.ownBlock=some g4\/g4=w.heap.size+1) (hn:R.l.length+1<=n):
 (∃v,w'.cell? ⟨rb,5,none⟩=some v)/\w'.frozen? ⟨rb,5,none⟩=false/\Below rb w (w'.setCell ⟨rb,5,none⟩ (.slice (some ⟨g4,0,none⟩) (R.l.length+1) cap4))/\
 RIn rb tv L n nm ht S ⟨some ⟨g4,0,none⟩,cap4,R.l++[x]⟩ C A (w'.setCell ⟨rb,5,none⟩ (.slice (some ⟨g4,0,none⟩) (R.l.length+1) cap4)):=by
 obtain⟨h1,h2,h3,h4,h5⟩:=h.top h.rows (A1:=[_]) (r:=⟨67,4,R.val,R.l.length,R.l.flatMap Xt.cells⟩) rfl hC hD hE 3 (by omega);refine⟨h1,h2,h3,by simpa[Ya,Sl.val] using h4,by simpa[XE,Sl.val] using h5,h.low,λr hr=> ?_⟩;have hc:=h.cnt;unfold XE at hr hc;simp only[List.mem_cons] at hr hc;rcases hr with rfl|rfl|hr
 ·exact hc _ (Or.inl rfl)
 ·simpa using hn
 ·exact hc r (Or.inr (Or.inr hr))
theorem RIn.addPair(h:RIn rb tv L n nm ht S R C A w){g4 cap4:Nat}{x:ByteArray×ByteArray}{o:Obj}
 (hC:w'.ownsRow (rb+1) 73 2 (.slice (some ⟨g4,0,none⟩) (A.l.length+1) cap4) (A.l.length+1) (A.l.flatMap X5++X5 x)) (hD:(w.alloc o).grownBy w' A.val.ownBlock) (hE:A.val.ownBlock=some g4\/g4=w.heap.size+1) (hn:A.l.length+1<=n):
 (∃v,w'.cell? ⟨rb,7,none⟩=some v)/\w'.frozen? ⟨rb,7,none⟩=false/\Below rb w (w'.setCell ⟨rb,7,none⟩ (.slice (some ⟨g4,0,none⟩) (A.l.length+1) cap4))/\
 RIn rb tv L n nm ht S R C ⟨some ⟨g4,0,none⟩,cap4,A.l++[x]⟩ (w'.setCell ⟨rb,7,none⟩ (.slice (some ⟨g4,0,none⟩) (A.l.length+1) cap4)):=by
 obtain⟨h1,h2,h3,h4,h5⟩:=h.top h.rows (A1:=[_,_,_]) (r:=⟨73,2,A.val,A.l.length,A.l.flatMap X5⟩) rfl hC hD hE 5 (by omega);refine⟨h1,h2,h3,by simpa[Ya,Sl.val] using h4,by simpa[XE,Sl.val] using h5,h.low,λr hr=> ?_⟩;have hc:=h.cnt;unfold XE at hr hc;simp only[List.mem_cons] at hr hc;rcases hr with rfl|rfl|rfl|rfl|hr
 ·exact hc _ (Or.inl rfl)
 ·exact hc _ (Or.inr (Or.inl rfl))
 ·exact hc _ (Or.inr (Or.inr (Or.inl rfl)))
 ·simpa using hn
 ·exact hc r (Or.inr (Or.inr (Or.inr (Or.inr hr))))
theorem RIn.addCue(h:RIn rb tv L n nm ht S R C A w){g4 cap4:Nat}{q:Xn}(hq:q.aD=⟨none,0,[]⟩){o:Obj}
 (hC:w'.ownsRow (rb+1) 70 7 (.slice (some ⟨g4,0,none⟩) (C.l.length+1) cap4) (C.l.length+1) (C.l.flatMap Xn.cells++q.cells)) (hD:(w.alloc o).grownBy w' C.val.ownBlock) (hE:C.val.ownBlock=some g4\/g4=w.heap.size+1) (hn:C.l.length+1<=n):
 (∃v,w'.cell? ⟨rb,6,none⟩=some v)/\w'.frozen? ⟨rb,6,none⟩=false/\Below rb w (w'.setCell ⟨rb,6,none⟩ (.slice (some ⟨g4,0,none⟩) (C.l.length+1) cap4))/\
 RIn rb tv L n nm ht S R ⟨some ⟨g4,0,none⟩,cap4,C.l++[q]⟩ A (w'.setCell ⟨rb,6,none⟩ (.slice (some ⟨g4,0,none⟩) (C.l.length+1) cap4)):=by
 obtain⟨h1,h2,h3,h4,h5⟩:=h.top h.rows (A1:=[_,_]) (r:=⟨70,7,C.val,C.l.length,C.l.flatMap Xn.cells⟩) rfl hC hD hE 4 (by omega);have h6:=(h5.nil_cons 72 5).perm (List.perm_append_singleton _ _).symm;refine⟨h1,h2,h3,by simpa[Ya,Sl.val] using h4,by simpa[XE,Sl.val,Xn.rows,hq] using h6,h.low,λr hr=> ?_⟩;have hc:=h.cnt;unfold XE at hr hc;simp only[List.mem_cons,List.mem_append,List.flatMap_append] at hr hc;rcases hr with rfl|rfl|rfl|rfl|hr|hr|hr
 ·exact hc _ (Or.inl rfl)
 ·exact hc _ (Or.inr (Or.inl rfl))
 ·simpa using hn
 ·exact hc _ (Or.inr (Or.inr (Or.inr (Or.inl rfl))))
 ·exact hc r (Or.inr (Or.inr (Or.inr (Or.inr (Or.inl hr)))))
 ·exact hc r (Or.inr (Or.inr (Or.inr (Or.inr (Or.inr hr)))))
 ·simp[Xn.rows,hq] at hr;rw[hr];exact Nat.zero_le _
end
end Go.Proofs.YtdcahhbipeaggaaGreatDoor
namespace Go.Proofs.YtdcahhbipeaggaaGreatDoor
open Go.RowKit
theorem Xoj{α:Type}(a b c:α)(Q Y:List α):(c::b::a::(Q++Y)).Perm (Q++([a,b,c]++Y)):=by
 have h1:(([c,b,a]++Q)++Y).Perm ((Q++[c,b,a])++Y):=List.perm_append_comm.append_right Y;have h2:(Q++([c,b,a]++Y)).Perm (Q++([a,b,c]++Y)):=List.Perm.append_left Q ((List.reverse_perm [a,b,c]).append_right Y);rw[List.append_assoc] at h1;exact h1.trans ((by rw[List.append_assoc]:(Q++[c,b,a])++Y=Q++([c,b,a]++Y))▸h2)
section
variable {rb n:Nat} {tv:Value} {L:List Xh} {nm:ByteArray} {ht:Int} {S:Sl Xd} {R:Sl Xt} {C:Sl Xn} {A:Sl (ByteArray×ByteArray)} {w w':World}
def JB(v:Value)(l:List Int):Row:=⟨3,1,v,l.length,l.flatMap Xj⟩
theorem RIn.addSet(h:RIn rb tv L n nm ht S R C A w){g4 cap4:Nat}{s:Xd}(hi:s.aF=⟨none,0,[]⟩)(hb:s.aE=⟨none,0,[]⟩)(hl:Rows (rb+1) w (JB s.aG.val s.aG.l::XE S R C A))(hD:s.aG.l.length<=n){o:Obj}
 (hC:w'.ownsRow (rb+1) 57 13 (.slice (some ⟨g4,0,none⟩) (S.l.length+1) cap4) (S.l.length+1) (S.l.flatMap Xd.cells++s.cells)) (hE:(w.alloc o).grownBy w' S.val.ownBlock) (hG:S.val.ownBlock=some g4\/g4=w.heap.size+1) (hn:S.l.length+1<=n):
 (∃v,w'.cell? ⟨rb,4,none⟩=some v)/\w'.frozen? ⟨rb,4,none⟩=false/\Below rb w (w'.setCell ⟨rb,4,none⟩ (.slice (some ⟨g4,0,none⟩) (S.l.length+1) cap4))/\
 RIn rb tv L n nm ht ⟨some ⟨g4,0,none⟩,cap4,S.l++[s]⟩ R C A (w'.setCell ⟨rb,4,none⟩ (.slice (some ⟨g4,0,none⟩) (S.l.length+1) cap4)):=by
 obtain⟨h1,h2,h3,h4,h5⟩:=h.top hl (A1:=[JB s.aG.val s.aG.l]) (r:=⟨57,13,S.val,S.l.length,S.l.flatMap Xd.cells⟩) rfl hC hE hG 2 (by omega);have h6:=((h5.nil_cons 86 7).nil_cons 88 3).perm (Xoj _ _ _ (⟨57,13,.slice (some ⟨g4,0,none⟩) (S.l.length+1) cap4,S.l.length+1,S.l.flatMap Xd.cells++s.cells⟩::⟨67,4,R.val,R.l.length,R.l.flatMap Xt.cells⟩::⟨70,7,C.val,C.l.length,C.l.flatMap Xn.cells⟩::⟨73,2,A.val,A.l.length,A.l.flatMap X5⟩::S.l.flatMap Xd.rows) (C.l.flatMap Xn.rows));refine⟨h1,h2,h3,by simpa[Ya,Sl.val] using h4,by simpa[XE,Sl.val,Xd.rows,hi,hb,JB] using h6,h.low,λr hr=> ?_⟩
 have hc:=h.cnt;unfold XE at hr hc;simp only[List.mem_cons,List.mem_append,List.flatMap_append] at hr hc;rcases hr with rfl|rfl|rfl|rfl|(hr|hr)|hr
 ·simpa using hn
 ·exact hc _ (Or.inr (Or.inl rfl))
 ·exact hc _ (Or.inr (Or.inr (Or.inl rfl)))
 ·exact hc _ (Or.inr (Or.inr (Or.inr (Or.inl rfl))))
 ·exact hc r (Or.inr (Or.inr (Or.inr (Or.inr (Or.inl hr)))))
 ·simp[Xd.rows,hi,hb] at hr;rcases hr with rfl|rfl|rfl
  ·exact hD
  ·exact Nat.zero_le _
  ·exact Nat.zero_le _
 ·exact hc r (Or.inr (Or.inr (Or.inr (Or.inr (Or.inr hr)))))
end
end Go.Proofs.YtdcahhbipeaggaaGreatDoor
namespace Go.Proofs.YtdcahhbipeaggaaGreatDoor
open Go.RowKit
def XcV(F:Nat)(ts:List Xh)(l:List Int)(more:Bool)(ts':List Xh):Prop:=
 match more with
 |true=>∃f,ts'.length<=f/\Zy F ts=Xr (Zy f ts') λl' r=> .ok (l++l',r)
 |false=>Zy F ts=.ok (l,ts')
theorem XcV.start(ts:List Xh):XcV ts.length ts [] true ts:=by
 refine⟨ts.length,Nat.le_refl _,?_⟩;cases Zy ts.length ts with
 |error p=>rfl
 |ok v=>rfl
theorem Xrn{f:Nat}{ts:List Xh}{q:Int×Int}(h:Y2 ts=.error q):Zy (f+1) ts=.error q:=by rw[Zy,h]
theorem XcV.err{F:Nat}{ts ts':List Xh}{l:List Int}{q:Int×Int}(h:XcV F ts l true ts')(hC:ts'≠[])(hv:Y2 ts'=.error q):Zy F ts=.error q:=by
 obtain⟨f,hf,h1⟩:=h;cases f with
 |zero=>exact absurd (List.eq_nil_of_length_eq_zero (by omega)) hC
 |succ f=>rw[h1,Xrn hv];rfl
theorem XcV.step{F:Nat}{ts ts' r:List Xh}{l:List Int}{v:Int}(h:XcV F ts l true ts')(hC:ts'≠[])(hv:Y2 ts'=.ok (v,r)):XcV F ts (l++[v]) (decide (JU r≠4)) r:=by
 obtain⟨f,hf,h1⟩:=h;cases f with
 |zero=>exact absurd (List.eq_nil_of_length_eq_zero (by omega)) hC
 |succ f=>
  have hl:=QQ ts' v r hv;by_cases hk:JU r=4
  ·rw[decide_eq_false (by simpa using hk)];show Zy F ts=_;rw[h1,Zy,hv];simp only[hk,if_true,Xr]
  ·rw[decide_eq_true hk];refine⟨f,by omega,?_⟩;rw[h1,Zy,hv];simp only[if_neg hk];cases Zy f r with
   |error p=>rfl
   |ok w=>simp[Xr]
end Go.Proofs.YtdcahhbipeaggaaGreatDoor
namespace Go.Proofs.YtdcahhbipeaggaaGreatDoor
open Go.RowKit
def Xij(nm:ByteArray)(a:List Int)(v:Value):Array Value:=#[.string nm,.int .i64 (nth a 0),.int .i64 (nth a 1),.int .i64 (nth a 2),.int .i64 (nth a 3),v,.int .i64 (nth a 4),.int .i64 (nth a 5),.int .i64 (nth a 6),.int .i64 (nth a 7),.int .i64 (nth a 8),.slice none 0 0,.slice none 0 0]
theorem Rows.kept2{base:Nat}{w w':World}{rs:List Row}{row:Option Nat}(h:Rows base w rs)(hg:w.grownBy w' row)(hC:∀r∈rs,r.v.ownBlock=none\/r.v.ownBlock≠row):Rows base w' rs:=⟨λr hm=>(h.all r hm).kept hg (hC r hm),h.sep⟩
theorem Rows.tail{base:Nat}{w:World}{r:Row}{rs:List Row}(h:Rows base w (r::rs)):Rows base w rs:=⟨λr hm=>h.all r (List.mem_cons_of_mem _ hm),(List.pairwise_cons.1 h.sep).2⟩
structure XeJ(rb sb:Nat)(tv:Value)(L:List Xh)(hn:ByteArray)(ht:Int)(S:Sl Xd)(R:Sl Xt)(C:Sl Xn)(A:Sl (ByteArray×ByteArray))(u:World)(nm:ByteArray)(a:List Int)(v:Value)(l:List Int)(m:Nat)(x:World):Prop where
 rin:RIn rb tv L m hn ht S R C A x
 rows:Rows (rb+1) x (JB v l::XE S R C A)
 box:x.heap[sb]? =some (.cells (Xij nm a v) 57 (0,0))
 frame:u.grownBy x (some rb)
 fresh:∀k,v.ownBlock=some k->u.heap.size<=k/\k≠sb
 cnt:l.length<=m
section
variable {rb sb:Nat} {tv:Value} {L:List Xh} {hn:ByteArray} {ht:Int} {S:Sl Xd} {R:Sl Xt} {C:Sl Xn} {A:Sl (ByteArray×ByteArray)} {u:World} {nm:ByteArray} {a:List Int} {v:Value} {l:List Int} {m:Nat} {x y:World}
theorem XeJ.kept{m':Nat}(h:XeJ rb sb tv L hn ht S R C A u nm a v l m x)(hC:sb≠rb)(hg:x.grownBy y (some rb))(hr:Rd0 rb tv L m' (Ya hn ht S R C A) y)(hm:m<=m'):XeJ rb sb tv L hn ht S R C A u nm a v l m' y:=
 ⟨h.rin.kept hg hr hm,h.rows.kept hg (λk hk=>by injection hk with hk;omega),(hg.block sb (agS h.box).1 (λe=>hC (by injection e))).trans h.box,XG h.frame hg,h.fresh,Nat.le_trans h.cnt hm⟩
theorem XeJ.own(h:XeJ rb sb tv L hn ht S R C A u nm a v l m x):x.ownsRow (rb+1) 3 1 v l.length (l.flatMap Xj):=h.rows.all _ List.mem_cons_self
theorem XeJ.append(h:XeJ rb sb tv L hn ht S R C A u nm a v l m x)(hQ:u.heap.size<=sb)(hL:rb+1<=sb){g4 cap4:Nat}{i:Int}{o:Obj}
 (hE:y.ownsRow (rb+1) 3 1 (.slice (some ⟨g4,0,none⟩) (l.length+1) cap4) (l.length+1) (l.flatMap Xj++Xj i)) (hD:(x.alloc o).grownBy y v.ownBlock) (hG:v.ownBlock=some g4\/g4=x.heap.size+1) (hm:l.length+1<=m)
 (hH:∀r∈XE S R C A,r.v.ownBlock≠some sb):
 (∃z,y.cell? ⟨sb,5,none⟩=some z)/\y.frozen? ⟨sb,5,none⟩=false/\XeJ rb sb tv L hn ht S R C A u nm a (.slice (some ⟨g4,0,none⟩) (l.length+1) cap4) (l++[i]) m (y.setCell ⟨sb,5,none⟩ (.slice (some ⟨g4,0,none⟩) (l.length+1) cap4)):=by
 have hx:=(agS h.box).1;have hM:=World.ownsRow.lt h.own;have hN:=h.rin.rd.lt;have ho:y.heap[sb]? =some (.cells (Xij nm a v) 57 (0,0)):=by
  rw[hD.block sb (by simp;omega) (λe=>(h.fresh sb e.symm).2 rfl),heap_alloc_old x o hx];exact h.box
 have hI:Below (rb+1) x y:=Below.grown ((Below.refl (rb+1) x).alloc (by omega) o) hD (by simp;omega) (λk hk=>(hM k hk).1);have hC:Below (rb+1) x (y.setCell ⟨sb,5,none⟩ (.slice (some ⟨g4,0,none⟩) (l.length+1) cap4)):=hI.setCell (p:=⟨sb,5,none⟩) hL _;have ha:Rows (rb+1) (x.alloc o) _:=h.rows.kept (row:=none) (World.grownBy_alloc x o none) (λk hk=>by cases hk);have hK:g4≠sb:=by
  rcases hG with h5|h5
  ·exact(h.fresh g4 h5).2
  ·omega
 have h1:=Rows.turn (A:=[]) (r:=JB v l) ha (r':=JB (.slice (some ⟨g4,0,none⟩) (l.length+1) cap4) (l++[i])) (by
  unfold Row.lies JB;simp only[List.length_append,List.length_singleton,List.flatMap_append,List.flatMap_singleton]
  exact hE) hD (λk hk=>by
  have hJ:g4=k:=by simpa[Value.ownBlock,JB] using hk
  subst hJ;rcases hG with h5|h5
  ·exact Or.inl h5
  ·exact Or.inr (by simp;omega))
 have h2:=h1.kept2 (XX (World.grownBy.refl y (some sb)) (i:=5) (v:=.slice (some ⟨g4,0,none⟩) (l.length+1) cap4)) (λr hr=>by
  rcases List.mem_cons.1 hr with rfl|hr
  ·exact Or.inr (λe=>hK (by simpa[Value.ownBlock,JB] using e))
  ·exact Or.inr (hH r hr))
 refine⟨⟨v,(Joins.cell_of_block ho 5).trans rfl⟩,Xe ho 5,⟨h.rin.rd.low h.rin.low hC,Rows.tail h2,h.rin.low,h.rin.cnt⟩,h2,Xx ho _,?_,λk hk=> ?_,by simpa using hm⟩
 ·refine⟨hC.os.trans h.frame.os,hC.tape.trans h.frame.tape,hC.output.trans h.frame.output,Nat.le_trans h.frame.size hC.size,λk hk hO=> ?_⟩;have hP:k<x.heap.size:=Nat.lt_of_lt_of_le hk h.frame.size;rw[Below.heap_setCell _ _ _ _ (by simp only;omega),hD.block k (by simp;omega) (λe=>by have:=(h.fresh k e.symm).1;omega),heap_alloc_old x o hP];exact h.frame.block k hk hO
 ·have hJ:g4=k:=by simpa[Value.ownBlock] using hk
  subst hJ;refine⟨?_,hK⟩;rcases hG with h5|h5
  ·exact(h.fresh g4 h5).1
  ·have:=h.frame.size;omega
end
end Go.Proofs.YtdcahhbipeaggaaGreatDoor
namespace Go.Proofs.YtdcahhbipeaggaaGreatDoor
open Go.RowKit
theorem XsO(nm:ByteArray)(a1 a2 a3 a4 a5 a6 a7 a8 a9:Int):Xdj #[.string nm,.int .i64 0,.int .i64 0,.int .i64 0,.int .i64 0,.slice none 0 0,.int .i64 0,.int .i64 0,.int .i64 0,.int .i64 0,.int .i64 0,.slice none 0 0,.slice none 0 0] [1,2,3,4,6,7,8,9,10] [a1,a2,a3,a4,a5,a6,a7,a8,a9]=Xij nm [a1,a2,a3,a4,a5,a6,a7,a8,a9] (.slice none 0 0):=by
 simp[Xdj,Xij,nth]
end Go.Proofs.YtdcahhbipeaggaaGreatDoor
namespace Go.Proofs.YtdcahhbipeaggaaGreatDoor
open Go.RowKit
structure Xq where
 aC:Sl Xn
 apart:Sl (ByteArray×ByteArray)
def Xq.pl(s:Xq):Xp:=⟨s.aC.l.map Xn.pl,s.apart.l⟩
def Xf.pl(h:Xf):Xl:=⟨h.name,h.aH,h.aA.l.map Xd.pl,h.aB.l⟩
structure Xw.ok(m:Xw):Prop where
 set:m.set.size<=maxLen
 til:I64 m.to
 aK:I64 m.aK
 rise:I64 m.rise
 fall:I64 m.fall
structure Xn.ok(q:Xn):Prop where
 name:q.name.size<=maxLen
 after:q.after.size<=maxLen
 link:I64 q.link
 aL:I64 q.aL
 aD:∀m∈q.aD.l,m.ok
 crew:I64 q.crew
 power:I64 q.power
structure Xq.ok(s:Xq):Prop where
 aC:∀q∈s.aC.l,q.ok
 apart:∀p∈s.apart.l,p.1.size<=maxLen/\p.2.size<=maxLen
structure Xn.at_(w:World)(B:Nat)(q:Xn):Prop where
 aD:XA w B 5 Xw.cells q.aD
structure Xq.at_(w:World)(B:Nat)(s:Xq):Prop where
 aC:XA w B 7 Xn.cells s.aC
 each:∀q∈s.aC.l,Xn.at_ w B q
 apart:XA w B 2 X5 s.apart
section
variable {w w':World} {B B':Nat}
theorem Xn.at_.to{q:Xn}(h:Xn.at_ w B q)(hb:Below B w w')(hB:B<=B'):Xn.at_ w' B' q:=⟨h.aD.to hb hB⟩
theorem Xq.at_.to{s:Xq}(h:Xq.at_ w B s)(hb:Below B w w')(hB:B<=B'):Xq.at_ w' B' s:=⟨h.aC.to hb hB,λq hq=>(h.each q hq).to hb hB,h.apart.to hb hB⟩
end
section
variable {W:World} {B b off:Nat} {t:TypeId}
theorem Xq.boxed{s:Xq}(hW:W.heap[b]? =some (.cells #[.slice s.aC.A s.aC.l.length s.aC.cap,.slice s.apart.A s.apart.l.length s.apart.cap] t (0,0)))(hb:b<B)(x:Xb B W):x.val.cell? ⟨b,0,none⟩=some (.slice s.aC.A s.aC.l.length s.aC.cap)/\x.val.cell? ⟨b,1,none⟩=some (.slice s.apart.A s.apart.l.length s.apart.cap):=⟨x.cells hW hb 0 _ rfl,x.cells hW hb 1 _ rfl⟩
theorem Xn.boxed{q:Xn}(hW:W.heap[b]? =some (.cells #[.string q.name,.string q.after,.int .i64 q.link,.int .i64 q.aL,.slice q.aD.A q.aD.l.length q.aD.cap,.int .i64 q.crew,.int .i64 q.power] t (0,0)))(hb:b<B)(x:Xb B W):x.val.cell? ⟨b,0,none⟩=some (.string q.name)/\x.val.cell? ⟨b,1,none⟩=some (.string q.after)/\x.val.cell? ⟨b,2,none⟩=some (.int .i64 q.link)/\x.val.cell? ⟨b,3,none⟩=some (.int .i64 q.aL)/\x.val.cell? ⟨b,4,none⟩=some (.slice q.aD.A q.aD.l.length q.aD.cap)/\x.val.cell? ⟨b,5,none⟩=some (.int .i64 q.crew)/\x.val.cell? ⟨b,6,none⟩=some (.int .i64 q.power):=⟨x.cells hW hb 0 _ rfl,x.cells hW hb 1 _ rfl,x.cells hW hb 2 _ rfl,x.cells hW hb 3 _ rfl,x.cells hW hb 4 _ rfl,x.cells hW hb 5 _ rfl,x.cells hW hb 6 _ rfl⟩
theorem Xw.boxed{m:Xw}(hW:W.heap[b]? =some (.cells #[.string m.set,.int .i64 m.to,.int .i64 m.aK,.int .i64 m.rise,.int .i64 m.fall] t (0,0)))(hb:b<B)(x:Xb B W):x.val.cell? ⟨b,0,none⟩=some (.string m.set)/\x.val.cell? ⟨b,1,none⟩=some (.int .i64 m.to)/\x.val.cell? ⟨b,2,none⟩=some (.int .i64 m.aK)/\x.val.cell? ⟨b,3,none⟩=some (.int .i64 m.rise)/\x.val.cell? ⟨b,4,none⟩=some (.int .i64 m.fall):=⟨x.cells hW hb 0 _ rfl,x.cells hW hb 1 _ rfl,x.cells hW hb 2 _ rfl,x.cells hW hb 3 _ rfl,x.cells hW hb 4 _ rfl⟩
theorem Xn.elem{l:List Xn}{k:Nat}{s:Xn}(hs:l[k]? =some s)(hb:b<B)(hc:∀i x,l[i]? =some x->∀j u,(x.cells)[j]? =some u->W.cell? ⟨b,off+(i*7+j),none⟩=some u)(x:Xb B W):
 x.val.cell? ⟨b,off+k*7,none⟩=some (.string s.name)/\x.val.cell? ⟨b,off+k*7+1,none⟩=some (.string s.after)/\x.val.cell? ⟨b,off+k*7+2,none⟩=some (.int .i64 s.link)/\x.val.cell? ⟨b,off+k*7+3,none⟩=some (.int .i64 s.aL)/\x.val.cell? ⟨b,off+k*7+4,none⟩=some (.slice s.aD.A s.aD.l.length s.aD.cap)/\x.val.cell? ⟨b,off+k*7+5,none⟩=some (.int .i64 s.crew)/\x.val.cell? ⟨b,off+k*7+6,none⟩=some (.int .i64 s.power):=by
 have h:∀j u,s.cells[j]? =some u->x.val.cell? ⟨b,off+k*7+j,none⟩=some u:=λj u hu=>by rw[Nat.add_assoc];exact x.cell (hc k s hs j u hu) hb
 exact⟨h 0 _ rfl,h 1 _ rfl,h 2 _ rfl,h 3 _ rfl,h 4 _ rfl,h 5 _ rfl,h 6 _ rfl⟩
theorem Xw.elem{l:List Xw}{k:Nat}{s:Xw}(hs:l[k]? =some s)(hb:b<B)(hc:∀i x,l[i]? =some x->∀j u,(x.cells)[j]? =some u->W.cell? ⟨b,off+(i*5+j),none⟩=some u)(x:Xb B W):
 x.val.cell? ⟨b,off+k*5,none⟩=some (.string s.set)/\x.val.cell? ⟨b,off+k*5+1,none⟩=some (.int .i64 s.to)/\x.val.cell? ⟨b,off+k*5+2,none⟩=some (.int .i64 s.aK)/\x.val.cell? ⟨b,off+k*5+3,none⟩=some (.int .i64 s.rise)/\x.val.cell? ⟨b,off+k*5+4,none⟩=some (.int .i64 s.fall):=by
 have h:∀j u,s.cells[j]? =some u->x.val.cell? ⟨b,off+k*5+j,none⟩=some u:=λj u hu=>by rw[Nat.add_assoc];exact x.cell (hc k s hs j u hu) hb
 exact⟨h 0 _ rfl,h 1 _ rfl,h 2 _ rfl,h 3 _ rfl,h 4 _ rfl⟩
theorem Xb0{l:List (ByteArray×ByteArray)}{k:Nat}{s:ByteArray×ByteArray}(hs:l[k]? =some s)(hb:b<B)(hc:∀i x,l[i]? =some x->∀j u,(X5 x)[j]? =some u->W.cell? ⟨b,off+(i*2+j),none⟩=some u)(x:Xb B W):
 x.val.cell? ⟨b,off+k*2,none⟩=some (.string s.1)/\x.val.cell? ⟨b,off+k*2+1,none⟩=some (.string s.2):=by
 have h:∀j u,(X5 s)[j]? =some u->x.val.cell? ⟨b,off+k*2+j,none⟩=some u:=λj u hu=>by rw[Nat.add_assoc];exact x.cell (hc k s hs j u hu) hb
 exact⟨h 0 _ rfl,h 1 _ rfl⟩
end
theorem XhX{W:World}{g:Nat}{t:TypeId}(l:List Int)(hl:l.length<=1000)(h:W.heap[g]? =some (.cells (l.map (Value.int .i64)).toArray t (0,0))):XA W W.heap.size 1 Xj ⟨some ⟨g,0,none⟩,l.length,l⟩:=by
 refine⟨Nat.le_refl _,by unfold maxLen;simp only;omega,λ_=>⟨g,0,rfl,(agS h).1,λi x hi j u hu=> ?_⟩⟩;have hj:j=0:=by
  have:=(lgS hu).1;simp[Xj] at this;exact this
 subst hj;have hC:u=.int .i64 x:=by simpa[Xj] using hu.symm
 have hD:l[i]? =some x:=hi;rw[hC,show 0+(i*1+0)=i by omega,Joins.cell_of_block h i];simp[hD]
def Z3(e:ByteArray×ByteArray):Value:=.agg #[.string e.1,.string e.2]
theorem XjO(A:Option Addr)(cap:Nat)(l:List (ByteArray×ByteArray))(p:ByteArray×ByteArray->Bool)(g:Nat)(lb:Array Value)(eg:∀args w,(callFunc g args).run Tryz.prog w=.ok (.enter g args) w)(W:World)(B:Nat)(hB:B<=W.heap.size)(hs:XA W B 2 X5 ⟨A,cap,l⟩)
 (hp:Zn Tryz.prog g lb Z3 p W.heap.size W l):
 Calls Tryz.prog 124 #[.slice A l.length cap,.func (.func g) #[] lb] W (Xc W (.int .i64 (idx p l))):=by
 have HS:=Xa hs;have HP:=Xa hp;have hm:cap<=9223372036854775807:=hs.2.1;have hH:l.length<=cap:=hs.1;clear hs hp;go_enter Tryz.func124,Tryz.ntmps124;go_wp2;go_loopw [8] (λv wr=>∃k:Nat,v=.int .i64 k/\k<=l.length/\Hid (∀j y,j<k->l[j]? =some y->p y=false)/\∃x:Xb W.heap.size W,wr=x.val) (λv _=>l.length-(intOf v).toNat)
 case atStart=>exact⟨0,rfl,Nat.zero_le _,λj y hj=>absurd hj (by omega),Xb.refl _ _,rfl⟩
 case round=>
  obtain⟨k,rfl,hk,hD,x,rfl⟩:=hrel;by_cases hE:k<l.length
  ·obtain⟨b,off,hA,hb,hC⟩:=HS.out.2.2 (show 0<l.length by omega);simp only at hA;subst hA;have hx:l[k]? =some l[k]:=lgE hE;have he:=λx:Xb W.heap.size W=>Xb0 hx (show b<W.heap.size by omega) hC x;have HC:=Xa hC;have HX:=Xa hx;clear hC hx;cases hG:p l[k]
   ·go_wp2_with fail;refine(Xc.after nr (HP.out x l[k] (List.getElem_mem hE))).mono ?_;rintro e w' ⟨rfl,x,rfl⟩;go_wp2;exact⟨⟨k+1,by go_num,by omega,Qw hD.out HX.out hG,_,rfl⟩,by simp[intOf];omega⟩
   ·go_wp2_with fail;refine(Xc.after nr (HP.out x l[k] (List.getElem_mem hE))).mono ?_;rintro e w' ⟨rfl,x,rfl⟩;go_wp2;go_ret;exact Xc.mk (congrArg (Value.int IntKind.i64) (QU HX.out hG hD.out).symm) x.below
  ·go_wp2;go_ret;exact Xc.mk (congrArg (Value.int IntKind.i64) (JF λj y hj hy=>hD.out j y (by omega) hy).symm) x.below
theorem Xcc(A:Option Addr)(cap:Nat)(l:List (ByteArray×ByteArray))(p:ByteArray×ByteArray->Bool)(g:Nat)(lb:Array Value)(eg:∀args w,(callFunc g args).run Tryz.prog w=.ok (.enter g args) w)(W:World)(B:Nat)(hB:B<=W.heap.size)(hs:XA W B 2 X5 ⟨A,cap,l⟩)
 (hp:Zn Tryz.prog g lb Z3 p W.heap.size W l):
 Calls Tryz.prog 73 #[.slice A l.length cap,.func (.func g) #[] lb] W (Xc W (.bool (l.any p))):=by
 have HS:=Xa hs;have HP:=Xa hp;clear hs hp;go_enter Tryz.func73,Tryz.ntmps73;go_wp2_with fail;refine(Xc.first (XjO _ _ l p g lb eg W B hB HS.out HP.out)).mono ?_;rintro e w' ⟨rfl,x,rfl⟩;go_wp2;go_ret;exact Xc.mk (congrArg Value.bool (Zh p l)) x.below
def Zo(n:Int):Bool:=decide (-1000000000000000<n)&&decide (n<1000000000000000)
theorem XjZ:∀args w,(callFunc 123 args).run Tryz.prog w=.ok (.enter 123 args) w:=XZ Tryz.func123 (by kernel_rfl) rfl
theorem Xot(n:Int)(w:World):Calls Tryz.prog 123 #[.int .i64 n] w (Xc w (.bool (!Zo n))):=by
 go_enter Tryz.func123,Tryz.ntmps123;by_cases h1:n<= -1000000000000000
 ·have e:Zo n=false:=by simp[Zo];omega
  rw[e];go_wp2;go_ret;exact Xc.mk rfl brf
 ·by_cases h2:(1000000000000000:Int)<=n
  ·have e:Zo n=false:=by simp[Zo];omega
   rw[e];go_wp2;go_ret;exact Xc.mk rfl brf
  ·have e:Zo n=true:=by simp[Zo];omega
   rw[e];go_wp2;go_ret;exact Xc.mk rfl brf
theorem Xhv{α:Type}(p:α->Bool)(l:List α):(!l.any λx=> !p x)=l.all p:=by
 induction l with
 |nil=>rfl
 |cons a l ih=>simp only[List.any_cons,List.all_cons,<-ih];cases p a<;>simp
theorem Xkm(A:Option Addr)(cap:Nat)(l:List Int)(W:World)(B:Nat)(hB:B<=W.heap.size)(hs:XA W B 1 Xj ⟨A,cap,l⟩):Calls Tryz.prog 72 #[.slice A l.length cap] W (Xc W (.bool (l.all Zo))):=by
 go_enter Tryz.func72,Tryz.ntmps72;go_wp2_with fail;refine(Xc.first (ZQ A cap l (λn=> !Zo n) _ #[] XjZ W B hB hs (λx e _=>Xot e x.val))).mono ?_;rintro e w' ⟨rfl,x,rfl⟩;go_wp2;go_ret;exact Xc.mk (congrArg Value.bool (Xhv Zo l)) x.below
def Xb1(p:ByteArray×ByteArray):Bool:=XF p.1&&XF p.2
theorem XgI:∀args w,(callFunc 74 args).run Tryz.prog w=.ok (.enter 74 args) w:=XZ Tryz.func74 (by kernel_rfl) rfl
theorem Xjo(p:ByteArray×ByteArray)(h1:p.1.size<=maxLen)(h2:p.2.size<=maxLen)(w:World):Calls Tryz.prog 74 #[.agg #[.string p.1,.string p.2]] w (Xc w (.bool (!Xb1 p))):=by
 obtain⟨a,b⟩:=p;obtain⟨W,hW,hH,hD,hC⟩:=boxed w (.cells #[.string a,.string b] 73);have hc:=λy:Xb W.heap.size W=>And.intro (y.cells hC (by omega) 0 _ rfl) (y.cells hC (by omega) 1 _ rfl);have hE:=bdo hD;have HW:=Xa hW;have hG:=Xa hE;have hI:=hc (Xb.refl _ _);simp only[Xb.refl] at hI;have HC:=Xa hc;clear hW hH hD hC hE;simp only[Xb1];go_enter Tryz.func74,Tryz.ntmps74;cases ha:XF a
 ·go_wp2_with (go_at_call 61;rw[<-HW.out];refine(Xc.first (XK _ _ h1)).mono ?_;rintro e w' ⟨rfl,y,rfl⟩;rw[ha])
  go_ret;exact Xc.mk rfl (hG.out y)
 ·go_wp2_with (first
   |(go_at_call 61;rw[<-HW.out];refine(Xc.first (XK _ _ h1)).mono ?_;rintro e w' ⟨rfl,y,rfl⟩;rw[ha])
   |(go_at_call 61;refine(Xc.after nr (XK _ _ h2)).mono ?_;rintro e w' ⟨rfl,z,rfl⟩))
  go_ret;exact Xc.mk rfl (hG.out _)
open Go Go.RowKit in
theorem bxsh(w:World)(x:Xq):∃W:World,W=w.alloc (.cells #[.slice x.aC.A x.aC.l.length x.aC.cap,.slice x.apart.A x.apart.l.length x.apart.cap] 29)/\W.heap.size=w.heap.size+1/\Below w.heap.size w W/\W.heap[w.heap.size]? =some (.cells #[.slice x.aC.A x.aC.l.length x.aC.cap,.slice x.apart.A x.apart.l.length x.apart.cap] 29):=boxed w _
end Go.Proofs.YtdcahhbipeaggaaGreatDoor
namespace Go.Proofs.YtdcahhbipeaggaaGreatDoor
open Go.RowKit
def Xav(link:Int)(after:ByteArray):Bool:=(link==1&&after.toList==[])||((link==2||link==3)&&XF after)
def XbC(m:Xw):Bool:=XF m.set&&[m.to,m.aK,m.rise,m.fall].all Zo
def ZP(name after:ByteArray)(link aL crew power:Int):Bool:=XF name&&Xav link after&&[aL,crew,power].all Zo
def Xfd(q:XW):Bool:=ZP q.name q.after q.link q.aL q.crew q.power&&q.aD.all XbC
def Xa5(l:List Xn):Nat:=(l.map λq=>q.aD.l.length).sum
def Jr(s:Xq):Bool:=decide (s.aC.l.length<=60)&&decide (s.apart.l.length<=1000)&&s.aC.l.all (λq=>Xfd q.pl)&&decide (Xa5 s.aC.l<=100)&&s.apart.l.all Xb1
theorem Xua{α:Type}{p:α->Bool}{l:List α}{k:Nat}{x:α}(h:l[k]? =some x)(hp:p x=false):l.all p=false:=by
 rw[List.all_eq_false];exact⟨x,lmg h,by simp[hp]⟩
theorem XmF{α:Type}{p:α->Bool}{l:List α}{k:Nat}(h:YA (λ_ x=>p x) l k)(hk:l.length<=k):l.all p=true:=by
 rw[List.all_eq_true];intro x hx;obtain⟨j,hj,e⟩:=List.getElem_of_mem hx;exact h j x (by omega) (by rw[lgE hj,e])
theorem Xnh(l:List Xn)(k:Nat)(q:Xn)(h:l[k]? =some q):Xa5 (l.take (k+1))=Xa5 (l.take k)+q.aD.l.length:=by
 have hk:k<l.length:=(lgS h).1;have e:l[k]=q:=(lgS h).2;simp[Xa5,List.take_succ_eq_append_getElem hk,e]
theorem XkJ:∀(l:List Xn) (N:Nat),(∀q∈l,q.aD.l.length<=N)->Xa5 l<=l.length*N
 |[],_,_=>by simp[Xa5]
 |q::l,N,h=>by
  have h1:=XkJ l N (λq hq=>h q (by simp[hq]));have h3:=h q (by simp);simp only[Xa5,List.map_cons,List.sum_cons,List.length_cons] at h1 ⊢;rw[Nat.add_mul,Nat.one_mul];omega
theorem XmT(a b c:Int)(y:World):Calls Tryz.prog 72 #[.slice (some ⟨y.heap.size,0,none⟩) 3 3] (y.alloc (.cells #[.int .i64 a,.int .i64 b,.int .i64 c] 3 (0,0))) (Xc y (.bool ([a,b,c].all Zo))):=by
 obtain⟨V,hV,hE,hC,hD⟩:=boxed y (.cells #[.int .i64 a,.int .i64 b,.int .i64 c] 3);rw[<-hV];refine(Xkm (some ⟨y.heap.size,0,none⟩) 3 [a,b,c] V V.heap.size nr (XhX [a,b,c] (by simp) hD)).mono ?_;rintro e w' ⟨h1,h2⟩;exact⟨h1,hC.trans (h2.mono (by omega))⟩
theorem XmS(a b c d:Int)(y:World):Calls Tryz.prog 72 #[.slice (some ⟨y.heap.size,0,none⟩) 4 4] (y.alloc (.cells #[.int .i64 a,.int .i64 b,.int .i64 c,.int .i64 d] 3 (0,0))) (Xc y (.bool ([a,b,c,d].all Zo))):=by
 obtain⟨V,hV,hE,hC,hD⟩:=boxed y (.cells #[.int .i64 a,.int .i64 b,.int .i64 c,.int .i64 d] 3);rw[<-hV];refine(Xkm (some ⟨y.heap.size,0,none⟩) 4 [a,b,c,d] V V.heap.size nr (XhX [a,b,c,d] (by simp) hD)).mono ?_;rintro e w' ⟨h1,h2⟩;exact⟨h1,hC.trans (h2.mono (by omega))⟩
theorem Xg5{s:Xq}(h:¬(s.aC.l.length<=60/\s.apart.l.length<=1000)):Jr s=false:=by
 unfold Jr;by_cases h1:s.aC.l.length<=60
 ·have h2:¬s.apart.l.length<=1000:=λh2=>h ⟨h1,h2⟩;simp[h2]
 ·simp[h1]
theorem Xov{s:Xq}{k:Nat}{q:Xn}(h:s.aC.l[k]? =some q)(hq:Xfd q.pl=false):Jr s=false:=by
 unfold Jr;rw[Xua (p:=λq=>Xfd q.pl) h hq];simp
theorem XgL{q:Xn}(h:ZP q.name q.after q.link q.aL q.crew q.power=false):Xfd q.pl=false:=by
 show(ZP q.name q.after q.link q.aL q.crew q.power&&_)=false;rw[h];rfl
theorem Xr7{q:Xn}{k:Nat}{m:Xw}(h:q.aD.l[k]? =some m)(hm:XbC m=false):Xfd q.pl=false:=by
 show(ZP q.name q.after q.link q.aL q.crew q.power&&q.aD.l.all XbC)=false;rw[Xua h hm];simp
theorem XtY{q:Xn}(h:ZP q.name q.after q.link q.aL q.crew q.power=true)(hm:q.aD.l.all XbC=true):Xfd q.pl=true:=by
 show(ZP q.name q.after q.link q.aL q.crew q.power&&q.aD.l.all XbC)=true;rw[h,hm];rfl
theorem Xcl(s:Xq)(pT:s.ok)(w:World)(B:Nat)(hB:B<=w.heap.size)(hO:Xq.at_ w B s)(pH:∀q∈s.aC.l,q.aD.l.length<=1000000):
 Calls Tryz.prog 26 #[.agg #[.slice s.aC.A s.aC.l.length s.aC.cap,.slice s.apart.A s.apart.l.length s.apart.cap]] w (Xc w (.bool (Jr s))):=by
 obtain⟨W,hW,qF,pI,pU⟩:=bxsh w s;have hc:=λy:Xb W.heap.size W=>Xq.boxed pU (by omega) y;have pV:=bdo pI;have hR:Xq.at_ W W.heap.size s:=hO.to (pI.mono hB) (by omega);have hm:s.aC.cap<=9223372036854775807:=hO.aC.2.1;have rA:s.aC.l.length<=s.aC.cap:=hO.aC.1;have rB:s.apart.cap<=9223372036854775807:=hO.apart.2.1;have qG:s.apart.l.length<=s.apart.cap:=hO.apart.1;have pJ:=Xa hR;have pW:=Xa pT;have HW:=Xa hW;have rC:=Xa qF;have hD:=Xa pV;clear hW pU pI pV hR hO pT
 have qH:=hc (Xb.refl _ _);simp only[Xb.refl] at qH;by_cases rD:60<(s.aC.l.length:Int)
 ·have hP:=Xa (Xg5 (s:=s) (by omega));go_enter Tryz.func26,Tryz.ntmps26;go_upto_region 1 with fail;rw[<-HW.out];go_wp2_with fail;go_ret;exact Xc.mk (congrArg Value.bool hP.out.symm) (hD.out (Xb.refl _ _))
 ·by_cases rE:1000<(s.apart.l.length:Int)
  ·have hP:=Xa (Xg5 (s:=s) (by omega));go_enter Tryz.func26,Tryz.ntmps26;go_upto_region 1 with fail;rw[<-HW.out];go_wp2_with fail;go_ret;exact Xc.mk (congrArg Value.bool hP.out.symm) (hD.out (Xb.refl _ _))
  ·have hP:=Xa (λ(k:Nat) (q:Xn) (h:s.aC.l[k]? =some q) (hq:Xfd q.pl=false)=>Xov h hq);have qI:=Xa (λk=>XkJ (s.aC.l.take k) 1000000 (λq hq=>pH q (List.mem_of_mem_take hq)))
   have hT:=Xa (λ(k:Nat) (hk:s.aC.l.length<=k) (h:YA (λ_ (q:Xn)=>Xfd q.pl) s.aC.l k)=>show Jr s=(decide (Xa5 s.aC.l<=100)&&s.apart.l.all Xb1) by
    unfold Jr;rw[XmF (p:=λq=>Xfd q.pl) h hk,decide_eq_true (by omega:s.aC.l.length<=60),decide_eq_true (by omega:s.apart.l.length<=1000)]
    simp)
   obtain⟨r,hr⟩:∃r,r=Jr s:=⟨_,rfl⟩
   rw[<-hr] at hP hT ⊢;clear hr;have qJ:=Xa pH;clear pH;obtain⟨⟨A,cap,l⟩,⟨pA,pcap,pl⟩⟩:=s;simp only at*;go_enter Tryz.func26,Tryz.ntmps26;go_upto_region 1 with fail;rw[<-HW.out];go_wp2_with fail;go_loopw [3,22] (λv3 v wr=>∃k:Nat,v=.int .i64 k/\v3=.int .i64 (Xa5 (l.take k))/\k<=l.length/\Hid (YA (λ_ (q:Xn)=>Xfd q.pl) l k)/\∃x:Xb W.heap.size W,wr=x.val) (λ_ v _=>l.length-(intOf v).toNat)
   case atStart=>exact⟨0,rfl,rfl,Nat.zero_le _,Xa (YA.zero _ _),Xb.refl _ _,rfl⟩
   case round=>
    obtain⟨k,rfl,rfl,hk,hU,x,rfl⟩:=hrel;by_cases qK:k<l.length
    ·obtain⟨b,off,hA,hb,hI⟩:=pJ.out.aC.2.2 (show 0<l.length by omega);simp only at hA;subst hA;obtain⟨q,hx⟩:∃q,l[k]? =some q:=⟨l[k],lgE qK⟩
     have hE:q∈l:=lmg hx;have he:=λx:Xb W.heap.size W=>Xn.elem hx hb hI x;have hG:=pJ.out.each q hE;have hX:=pW.out.aC q hE;have HX:=Xa hx;have hH:=Xa (λhq=>hP.out k q hx hq);have qL:=Xa (Xnh l k q hx);have qM:q.aD.l.length<=1000000:=qJ.out q hE;have rF:Xa5 (l.take k)<=60000000:=by
      have h1:=qI.out k;rw[List.length_take] at h1;have:min k l.length<=60:=by omega
      have:=Nat.mul_le_mul_right 1000000 this;omega
     clear hI hx hE;obtain⟨nm,af,lk,dl,⟨mA,mc,ml⟩,cr,pw⟩:=q;simp only at*;have rG:mc<=9223372036854775807:=hG.aD.2.1;have qN:ml.length<=mc:=hG.aD.1;obtain⟨V,hV,qO,pX,pY⟩:=boxed x.val (.cells #[.string nm,.string af,.int .i64 lk,.int .i64 dl,.slice mA ml.length mc,.int .i64 cr,.int .i64 pw] 70);have pE:=λy:Xb V.heap.size V=>Xn.boxed (q:=⟨nm,af,lk,dl,⟨mA,mc,ml⟩,cr,pw⟩) pY (by omega) y;simp only at pE;have pK:=pE (Xb.refl _ _);simp only[Xb.refl] at pK;have pF:∀y:Xb V.heap.size V,Below W.heap.size W y.val:=λy=>x.below.trans ((pX.mono x.size).trans (y.below.mono (by have:=x.size;omega)))
     have qP:=λy:Xb V.heap.size V=>hc ⟨y.val,pF y⟩;simp only at qP;have HV:=Xa hV;have hQ:=Xa pF;have hY:=Xa (hG.aD.to (pF (Xb.refl _ _)) (show W.heap.size<=V.heap.size by have:=x.size;omega));simp only[Xb.refl] at hY;have hK:=Xa hX;clear hV qO pX pY pF hG hX;go_upto_region 7 with fail;rw[<-HV.out];go_cut [6] (λa wx=>a=.bool (Xav lk af)/\∃z:Xb V.heap.size V,wx=z.val)
     case first=>
      have pL:=hK.out.after;simp only at pL;cases h1:(lk==1)
      ·cases h2:(lk==2)
       ·cases h3:(lk==3)
        ·go_wp2_with fail;go_meet;exact⟨by simp[Xav,h1,h2,h3],Xb.refl _ _,rfl⟩
        ·go_wp2_with (go_at_call 61;refine(Xc.first (XK _ _ pL)).mono ?_;rintro e w' ⟨rfl,z,rfl⟩)
         go_meet;exact⟨by simp[Xav,h1,h2,h3],z,rfl⟩
       ·go_wp2_with (go_at_call 61;refine(Xc.first (XK _ _ pL)).mono ?_;rintro e w' ⟨rfl,z,rfl⟩)
        go_meet;exact⟨by simp[Xav,h1,h2],z,rfl⟩
      ·have h0:lk=1:=by simpa using h1
       have h2:(lk==2)=false:=by rw[h0];rfl
       have h3:(lk==3)=false:=by rw[h0];rfl
       clear h0;cases h4:(af.toList==[])
       ·go_wp2_with fail;go_meet;exact⟨by simp[Xav,h1,h2,h3,h4],Xb.refl _ _,rfl⟩
       ·go_wp2_with fail;go_meet;exact⟨by simp[Xav,h1,h4],Xb.refl _ _,rfl⟩
     case rest=>
      obtain⟨rfl,z,rfl⟩:=hcut;have hZ:=hK.out.name;simp only at hZ;have rH:=pE z;cases hN:XF nm
      ·have HF:=Xa (hH.out (XgL (by simp[ZP,hN])));go_wp2_with (go_at_call 61;refine(Xc.after nr (XK _ _ hZ)).mono ?_;rintro e w' ⟨rfl,y,rfl⟩;rw[hN])
       go_ret;exact Xc.mk (congrArg Value.bool HF.out.symm) (hD.out ⟨_,hQ.out _⟩)
      ·cases hA:Xav lk af
       ·have HF:=Xa (hH.out (XgL (by simp[ZP,hN,hA])));go_wp2_with (go_at_call 61;refine(Xc.after nr (XK _ _ hZ)).mono ?_;rintro e w' ⟨rfl,y,rfl⟩;rw[hN])
        go_ret;exact Xc.mk (congrArg Value.bool HF.out.symm) (hD.out ⟨_,hQ.out _⟩)
       ·cases hS:[dl,cr,pw].all Zo
        ·have HF:=Xa (hH.out (XgL (by simp only[ZP,hS,Bool.and_false])))
         go_wp2_with (first
          |(go_at_call 61;refine(Xc.after nr (XK _ _ hZ)).mono ?_;rintro e w' ⟨rfl,y,rfl⟩;rw[hN])
          |(go_at_call 72;refine(XmT dl cr pw y.val).mono ?_;rintro e w' ⟨rfl,hL⟩;obtain⟨y2,rfl⟩:∃y2:Xb V.heap.size V,w'=y2.val:=⟨⟨w',y.below.trans (hL.mono y.size)⟩,rfl⟩;rw[hS]))
         go_ret;exact Xc.mk (congrArg Value.bool HF.out.symm) (hD.out ⟨_,hQ.out _⟩)
        ·have pM:=Xa (λ(j:Nat) (m:Xw) (h:ml[j]? =some m) (hm:XbC m=false)=>hH.out (Xr7 (q:=⟨nm,af,lk,dl,⟨mA,mc,ml⟩,cr,pw⟩) h hm));have qQ:=Xa (λ(j:Nat) (hj:ml.length<=j) (h:YA (λ_ (m:Xw)=>XbC m) ml j)=>XtY (q:=⟨nm,af,lk,dl,⟨mA,mc,ml⟩,cr,pw⟩) (by simp only[ZP,hN,hA,hS,Bool.and_self]) (XmF h hj))
         go_wp2_with (first
          |(go_at_call 61;refine(Xc.after nr (XK _ _ hZ)).mono ?_;rintro e w' ⟨rfl,y,rfl⟩;rw[hN])
          |(go_at_call 72;refine(XmT dl cr pw y.val).mono ?_;rintro e w' ⟨rfl,hL⟩;obtain⟨y2,rfl⟩:∃y2:Xb V.heap.size V,w'=y2.val:=⟨⟨w',y.below.trans (hL.mono y.size)⟩,rfl⟩;rw[hS]))
         go_loopw [71] (λv wr=>∃j:Nat,v=.int .i64 j/\j<=ml.length/\Hid (YA (λ_ (m:Xw)=>XbC m) ml j)/\∃z:Xb V.heap.size V,wr=z.val) (λv _=>ml.length-(intOf v).toNat)
         case atStart=>exact⟨0,rfl,Nat.zero_le _,Xa (YA.zero _ _),_,rfl⟩
         case round=>
          obtain⟨j,rfl,hj,hJ,z,rfl⟩:=hrel;by_cases qR:j<ml.length
          ·obtain⟨mb,mo,pZ,qS,hC⟩:=hY.out.2.2 (show 0<ml.length by omega);simp only at pZ;subst pZ;obtain⟨m,pB⟩:∃m,ml[j]? =some m:=⟨ml[j],lgE qR⟩
           have rI:=λy:Xb V.heap.size V=>Xw.elem pB qS hC y;have pC:=hK.out.aD m (lmg pB);have pN:=pC.set;have qT:=Xa pB;have qA:=Xa (λhm=>pM.out j m pB hm);obtain⟨M,hM,qU,qB,qC⟩:=bxmv z.val m;have pO:=λy:Xb M.heap.size M=>Xw.boxed qC (by omega) y;have pP:=pO (Xb.refl _ _);simp only[Xb.refl] at pP;have qD:∀y:Xb M.heap.size M,Below V.heap.size V y.val:=λy=>z.below.trans ((qB.mono z.size).trans (y.below.mono (by have:=z.size;omega)))
           have HM:=Xa hM;have pQ:=Xa qD;clear hM qU qB qC qD pB hC pC;cases pD:XF m.set
           ·have HF:=Xa (qA.out (by simp[XbC,pD]));go_wp2_with (go_at_call 61;rw[<-HM.out];refine(Xc.first (XK _ _ pN)).mono ?_;rintro e w' ⟨rfl,y,rfl⟩;rw[pD])
            go_ret;exact Xc.mk (congrArg Value.bool HF.out.symm) (hD.out ⟨_,hQ.out ⟨_,pQ.out _⟩⟩)
           ·cases pG:[m.to,m.aK,m.rise,m.fall].all Zo
            ·have HF:=Xa (qA.out (by simp only[XbC,pG,Bool.and_false]))
             go_wp2_with (first
              |(go_at_call 61;rw[<-HM.out];refine(Xc.first (XK _ _ pN)).mono ?_;rintro e w' ⟨rfl,y,rfl⟩;rw[pD];have pR:=pO y)
              |(go_at_call 72;refine(XmS m.to m.aK m.rise m.fall y.val).mono ?_;rintro e w' ⟨rfl,hL⟩;obtain⟨y2,rfl⟩:∃y2:Xb M.heap.size M,w'=y2.val:=⟨⟨w',y.below.trans (hL.mono y.size)⟩,rfl⟩;rw[pG]))
             go_ret;exact Xc.mk (congrArg Value.bool HF.out.symm) (hD.out ⟨_,hQ.out ⟨_,pQ.out _⟩⟩)
            ·have qV:=Xa (show XbC m=true by simp only[XbC,pD,pG,Bool.and_self])
             go_wp2_with (first
              |(go_at_call 61;rw[<-HM.out];refine(Xc.first (XK _ _ pN)).mono ?_;rintro e w' ⟨rfl,y,rfl⟩;rw[pD];have pR:=pO y)
              |(go_at_call 72;refine(XmS m.to m.aK m.rise m.fall y.val).mono ?_;rintro e w' ⟨rfl,hL⟩;obtain⟨y2,rfl⟩:∃y2:Xb M.heap.size M,w'=y2.val:=⟨⟨w',y.below.trans (hL.mono y.size)⟩,rfl⟩;rw[pG]))
             exact⟨⟨j+1,by go_num,by omega,Xa (hJ.out.next qT.out qV.out),⟨_,pQ.out _⟩,rfl⟩,by simp[intOf];omega⟩
          ·have HQ:=Xa (qQ.out j (by omega) hJ.out);have qW:=pE z;go_wp2_with fail;refine⟨⟨k+1,by go_num,?_,by omega,Xa (hU.out.next HX.out HQ.out),⟨_,hQ.out _⟩,rfl⟩,by simp[intOf];omega⟩;rw[qL.out];go_num
    ·have HY:=Xa (hT.out k (by omega) hU.out);have qX:k=l.length:=by omega
     subst qX;rw[List.take_length];have rJ:=hc x;have qY:=Xa (pJ.out.apart.to x.below nr);have qE:=Xa pW.out.apart;by_cases qZ:(Xa5 l:Int)<=100
     ·have pS:=Xa (show r=pl.all Xb1 by rw[HY.out,decide_eq_true (by omega)];rfl);go_wp2_with (go_at_call 73;refine(Xc.after nr (Xcc pA pcap pl (λp=> !Xb1 p) _ #[] XgI x.val W.heap.size x.size qY.out (λx' e he=>Xjo e (qE.out e he).1 (qE.out e he).2 x'.val))).mono ?_;rintro e w' ⟨rfl,y,rfl⟩)
      go_ret;exact Xc.mk (congrArg Value.bool ((Xhv Xb1 pl).trans pS.out.symm)) (hD.out _)
     ·have pS:=Xa (show r=false by rw[HY.out,decide_eq_false (by omega)];rfl);go_wp2_with fail;go_ret;exact Xc.mk (congrArg Value.bool pS.out.symm) (hD.out _)
end Go.Proofs.YtdcahhbipeaggaaGreatDoor
namespace Go.Proofs.YtdcahhbipeaggaaGreatDoor
open Go.RowKit
def YB(n:ByteArray):Bool:=decide (n.size<=60)
def Qp(s:Xd)(most:Int):Bool:=decide (s.name.size<=60)&&decide (s.aG.l.length<=12)&& !(decide (most<(s.aF.l.length:Int))&&decide (s.aF.l.length<=40))&&decide (s.aF.l.length<=45)&&decide (s.aE.l.length<=10)
def YG(s:Xd)(most:Int):Bool:=Qp s most&&X8 (λ_ (x:Xu)=>YB x.name) s.aF.l&&X8 (λ_ (x:Xo)=>YB x.name) s.aE.l
def YU(h:Xf)(most:Int):Bool:=decide ((h.aA.l.length:Int)<=most)&&decide ((h.aB.l.length:Int)<=most+10)&&decide (h.name.size<=60)
def Ys(h:Xf)(most:Int):Bool:=YU h most&&X8 (λ_ s=>YG s 8) h.aA.l&&X8 (λ_ (r:Xt)=>YB r.name) h.aB.l
theorem Xjr{s:Xd}{m:Int}(h:Qp s m=false):YG s m=false:=by rw[YG,h];rfl
theorem Xii{s:Xd}{m:Int}{k:Nat}{x:Xu}(hx:s.aF.l[k]? =some x)(h:YB x.name=false):YG s m=false:=by rw[YG,YP hx h,Bool.and_false,Bool.false_and]
theorem XhC{s:Xd}{m:Int}{k:Nat}{x:Xo}(hx:s.aE.l[k]? =some x)(h:YB x.name=false):YG s m=false:=by rw[YG,YP hx h,Bool.and_false]
theorem Xlt{s:Xd}{m:Int}{k k':Nat}(h:Qp s m=true)(hk:s.aF.l.length<=k)(hu:YA (λ_ (x:Xu)=>YB x.name) s.aF.l k)(hC:s.aE.l.length<=k')(hD:YA (λ_ (x:Xo)=>YB x.name) s.aE.l k'):YG s m=true:=by rw[YG,h,hu.all hk,hD.all hC];rfl
theorem XhI{s:Xf}{m:Int}(h:YU s m=false):Ys s m=false:=by rw[Ys,h];rfl
theorem XhH{s:Xf}{m:Int}{k:Nat}{x:Xd}(hx:s.aA.l[k]? =some x)(h:YG x 8=false):Ys s m=false:=by rw[Ys,YP hx h,Bool.and_false,Bool.false_and]
theorem XgC{s:Xf}{m:Int}{k:Nat}{x:Xt}(hx:s.aB.l[k]? =some x)(h:YB x.name=false):Ys s m=false:=by rw[Ys,YP hx h,Bool.and_false]
theorem XiT{s:Xf}{m:Int}{k k':Nat}(h:YU s m=true)(hk:s.aA.l.length<=k)(hu:YA (λ_ s=>YG s 8) s.aA.l k)(hC:s.aB.l.length<=k')(hD:YA (λ_ (x:Xt)=>YB x.name) s.aB.l k'):Ys s m=true:=by rw[Ys,h,hu.all hk,hD.all hC];rfl
theorem XbW{s:Xd}{m:Int}:Qp s m=true↔(s.name.size:Int)<=60/\(s.aG.l.length:Int)<=12/\((s.aF.l.length:Int)<=m\/40<(s.aF.l.length:Int))/\(s.aF.l.length:Int)<=45/\(s.aE.l.length:Int)<=10:=by
 simp only[Qp,bae,decide_eq_true_eq,Bool.not_eq_true',Bool.and_eq_false_iff,decide_eq_false_iff_not];omega
theorem Xbd{s:Xf}{m:Int}:YU s m=true↔(s.aA.l.length:Int)<=m/\(s.aB.l.length:Int)<=m+10/\(s.name.size:Int)<=60:=by
 simp only[YU,bae,decide_eq_true_eq];omega
theorem Xct{n:ByteArray}(h:60<(n.size:Int)):YB n=false:=decide_eq_false (by omega)
theorem XbH{n:ByteArray}(h:(n.size:Int)<=60):YB n=true:=decide_eq_true (by omega)
theorem XhD(s:Xd)(m:Int)(w:World)(B:Nat)(hB:B<=w.heap.size)(hE:Xd.at_ w B s):
 Calls Tryz.prog 21 #[.agg #[.string s.name,.int .i64 s.depth,.int .i64 s.low,.int .i64 s.high,.int .i64 s.length,.slice s.aG.A s.aG.l.length s.aG.cap,.int .i64 s.aM,.int .i64 s.aN,.int .i64 s.aI,.int .i64 s.most,.int .i64 s.aJ,.slice s.aF.A s.aF.l.length s.aF.cap,.slice s.aE.A s.aE.l.length s.aE.cap],.int .i64 m] w (Xc w (.bool (YG s m))):=by
 obtain⟨W,hW,hV,hG,hO⟩:=bxst w s;have hc:=λy:Xb W.heap.size W=>Xd.boxed hO (by omega) y;have hP:=bdo hG;have hi:XA W W.heap.size 7 Xu.cells s.aF:=hE.aF.to (hG.mono hB) (by omega);have hQ:XA W W.heap.size 3 Xo.cells s.aE:=hE.aE.to (hG.mono hB) (by omega)
 have pC:s.aF.l.length<=s.aF.cap:=hE.aF.1;have hm:s.aF.cap<=9223372036854775807:=hE.aF.2.1;have hX:s.aE.l.length<=s.aE.cap:=hE.aE.1;have pD:s.aE.cap<=9223372036854775807:=hE.aE.2.1;have HI:=Xa hi;have hY:=Xa hQ;have HW:=Xa hW;have hL:=Xa hP;have hZ:=Xa hG;clear hW hV hO hG hP hE hi hQ;cases hh:Qp s m
 ·have pA:=Xa (Xjr hh);go_enter Tryz.func21,Tryz.ntmps21;go_wp2
  all_goals first
   |(go_ret;rw[<-HW.out];exact Xc.mk (congrArg Value.bool pA.out.symm) hZ.out)
   |exact absurd ((XbW (s:=s) (m:=m)).2 (by omega)) (by simp[hh])
 ·obtain⟨h1,h2,h3,h4,h5⟩:=XbW.1 hh;have hH:=Xa (λ(k k':Nat) (hk:s.aF.l.length<=k) hu (hR:s.aE.l.length<=k') pB=>Xlt hh hk hu hR pB);have hI:=Xa (λ(k:Nat) (x:Xu) hx h=>Xii (s:=s) (m:=m) (k:=k) (x:=x) hx h);have hJ:=Xa (λ(k:Nat) (x:Xo) hx h=>XhC (s:=s) (m:=m) (k:=k) (x:=x) hx h);clear hh;obtain⟨r,hr⟩:∃r,r=YG s m:=⟨_,rfl⟩
  rw[<-hr] at hH hI hJ ⊢;clear hr;obtain⟨name,depth,low,high,length,aG,aM,aN,aI,most,aJ,⟨A,cap,l⟩,⟨A',cap',l'⟩⟩:=s;simp only at*;have hT:(l.length:Int)<=m\/(m<(l.length:Int)/\40<(l.length:Int)):=by omega
  clear h3;go_enter Tryz.func21,Tryz.ntmps21;rcases hT with h3|⟨h3,hT⟩
  all_goals
   go_wp2;rw[<-HW.out];go_loopw [5] (λv wr=>∃k:Nat,v=.int .i64 k/\k<=l.length/\Hid (YA (λ_ (x:Xu)=>YB x.name) l k)/\∃x:Xb W.heap.size W,wr=x.val) (λv _=>l.length-(intOf v).toNat)
   case atStart=>exact⟨0,rfl,Nat.zero_le _,YA.zero _ _,Xb.refl _ _,rfl⟩
   case round=>
    obtain⟨k,rfl,hk,hK,x,rfl⟩:=hrel;by_cases hU:k<l.length
    ·obtain⟨b,off,hA,hb,hC⟩:=HI.out.2.2 (show 0<l.length by omega);simp only at hA;subst hA;have hx:l[k]? =some l[k]:=lgE hU;have he:=λx:Xb W.heap.size W=>(Xu.elem hx hb hC x).1;have HX:=Xa hx;clear hC hx;go_wp2
     ·go_ret;exact Xc.mk (congrArg Value.bool (hI.out k l[k] HX.out (Xct ‹_›)).symm) (hL.out _)
     ·exact⟨⟨k+1,by go_num,by omega,hK.out.next HX.out (XbH ‹_›),_,rfl⟩,by simp[intOf];omega⟩
    ·go_wp2;have hM:=Xa (show l.length<=k by omega);clear hk hU;go_loopw [6] (λv wr=>∃k:Nat,v=.int .i64 k/\k<=l'.length/\Hid (YA (λ_ (x:Xo)=>YB x.name) l' k)/\∃x:Xb W.heap.size W,wr=x.val) (λv _=>l'.length-(intOf v).toNat)
     case atStart=>exact⟨0,rfl,Nat.zero_le _,YA.zero _ _,_,rfl⟩
     case round=>
      obtain⟨k',rfl,hR,hD,x,rfl⟩:=hrel;by_cases hN:k'<l'.length
      ·obtain⟨b,off,hA,hb,hC⟩:=hY.out.2.2 (show 0<l'.length by omega);simp only at hA;subst hA;have hx:l'[k']? =some l'[k']:=lgE hN;have he:=λx:Xb W.heap.size W=>(Xo.elem hx hb hC x).1;have HX:=Xa hx;clear hC hx;go_wp2
       ·go_ret;exact Xc.mk (congrArg Value.bool (hJ.out k' l'[k'] HX.out (Xct ‹_›)).symm) (hL.out _)
       ·exact⟨⟨k'+1,by go_num,by omega,hD.out.next HX.out (XbH ‹_›),_,rfl⟩,by simp[intOf];omega⟩
      ·go_wp2;go_ret;exact Xc.mk (congrArg Value.bool (hH.out k k' hM.out hK.out (show l'.length<=k' by omega) hD.out).symm) (hL.out _)
theorem XfA(h:Xf)(m:Int)(pD:0<=m)(pE:m<=1000)(w:World)(B:Nat)(hB:B<=w.heap.size)(hH:Xf.at_ w B h):
 Calls Tryz.prog 5 #[.agg #[.string h.name,.int .i64 h.aH,.slice h.aA.A h.aA.l.length h.aA.cap,.slice h.aB.A h.aB.l.length h.aB.cap],.int .i64 m] w (Xc w (.bool (Ys h m))):=by
 obtain⟨W,hW,hX,hN,hT⟩:=bxhs w h;have hc:=λy:Xb W.heap.size W=>Xf.boxed hT (by omega) y;have hU:=bdo hN;have hE:Xf.at_ W W.heap.size h:=hH.to (hN.mono hB) (by omega);have hD:∀(s:Xd),s∈h.aA.l->∀v:World,Below W.heap.size W v->Calls Tryz.prog 21 #[.agg #[.string s.name,.int .i64 s.depth,.int .i64 s.low,.int .i64 s.high,.int .i64 s.length,.slice s.aG.A s.aG.l.length s.aG.cap,.int .i64 s.aM,.int .i64 s.aN,.int .i64 s.aI,.int .i64 s.most,.int .i64 s.aJ,.slice s.aF.A s.aF.l.length s.aF.cap,.slice s.aE.A s.aE.l.length s.aE.cap],.int .i64 8] v (Xc v (.bool (YG s 8))):=λs hs v hv=>XhD s 8 v W.heap.size hv.size ((hE.each s hs).to hv nr)
 have pF:h.aA.l.length<=h.aA.cap:=hH.aA.1;have hm:h.aA.cap<=9223372036854775807:=hH.aA.2.1;have hY:h.aB.l.length<=h.aB.cap:=hH.aB.1;have pG:h.aB.cap<=9223372036854775807:=hH.aB.2.1;have HI:=Xa hE.aA;have hZ:=Xa hE.aB;have HS:=Xa hD;have HW:=Xa hW;have hO:=Xa hU;have pA:=Xa hN;clear hW hX hT hN hU hH hE hD;cases hh:YU h m
 ·have pB:=Xa (XhI hh);go_enter Tryz.func5,Tryz.ntmps5;go_wp2
  all_goals first
   |(go_ret;rw[<-HW.out];exact Xc.mk (congrArg Value.bool pB.out.symm) pA.out)
   |exact absurd ((Xbd (s:=h) (m:=m)).2 (by omega)) (by simp[hh])
 ·obtain⟨h1,h2,h3⟩:=Xbd.1 hh;have hI:=Xa (λ(k k':Nat) (hk:h.aA.l.length<=k) hu (hV:h.aB.l.length<=k') pC=>XiT hh hk hu hV pC);have hJ:=Xa (λ(k:Nat) (x:Xd) hx hn=>XhH (s:=h) (m:=m) (k:=k) (x:=x) hx hn);have hK:=Xa (λ(k:Nat) (x:Xt) hx hn=>XgC (s:=h) (m:=m) (k:=k) (x:=x) hx hn);clear hh;obtain⟨r,hr⟩:∃r,r=Ys h m:=⟨_,rfl⟩
  rw[<-hr] at hI hJ hK ⊢;clear hr;obtain⟨name,aH,⟨A,cap,l⟩,⟨A',cap',l'⟩⟩:=h;simp only at*;go_enter Tryz.func5,Tryz.ntmps5;go_wp2;rw[<-HW.out];go_loopw [5] (λv wr=>∃k:Nat,v=.int .i64 k/\k<=l.length/\Hid (YA (λ_ s=>YG s 8) l k)/\∃x:Xb W.heap.size W,wr=x.val) (λv _=>l.length-(intOf v).toNat)
  case atStart=>exact⟨0,rfl,Nat.zero_le _,YA.zero _ _,Xb.refl _ _,rfl⟩
  case round=>
   obtain⟨k,rfl,hk,hL,x,rfl⟩:=hrel;by_cases hP:k<l.length
   ·obtain⟨b,off,hA,hb,hC⟩:=HI.out.2.2 (show 0<l.length by omega);simp only at hA;subst hA;have hx:l[k]? =some l[k]:=lgE hP;have hM:l[k]∈l:=List.getElem_mem hP;have he:=λx:Xb W.heap.size W=>Xd.elem hx hb hC x;have HX:=Xa hx;have HM:=Xa hM;clear hC hx hM;cases hs:YG l[k] 8
    ·go_wp2_with (go_at_call 21;refine(Xc.after nr (HS.out l[k] HM.out _ (Xb.below _))).mono ?_;rintro e w' ⟨rfl,y,rfl⟩)
     go_ret;exact Xc.mk (congrArg Value.bool (hJ.out k l[k] HX.out hs).symm) (hO.out _)
    ·go_wp2_with (go_at_call 21;refine(Xc.after nr (HS.out l[k] HM.out _ (Xb.below _))).mono ?_;rintro e w' ⟨rfl,y,rfl⟩)
     exact⟨⟨k+1,by go_num,by omega,hL.out.next HX.out hs,_,rfl⟩,by simp[intOf];omega⟩
   ·go_wp2;have hQ:=Xa (show l.length<=k by omega);clear hk hP;go_loopw [6] (λv wr=>∃k:Nat,v=.int .i64 k/\k<=l'.length/\Hid (YA (λ_ (x:Xt)=>YB x.name) l' k)/\∃x:Xb W.heap.size W,wr=x.val) (λv _=>l'.length-(intOf v).toNat)
    case atStart=>exact⟨0,rfl,Nat.zero_le _,YA.zero _ _,_,rfl⟩
    case round=>
     obtain⟨k',rfl,hV,hG,x,rfl⟩:=hrel;by_cases hR:k'<l'.length
     ·obtain⟨b,off,hA,hb,hC⟩:=hZ.out.2.2 (show 0<l'.length by omega);simp only at hA;subst hA;have hx:l'[k']? =some l'[k']:=lgE hR;have he:=λx:Xb W.heap.size W=>(Xt.elem hx hb hC x).1;have HX:=Xa hx;clear hC hx;go_wp2
      ·go_ret;exact Xc.mk (congrArg Value.bool (hK.out k' l'[k'] HX.out (Xct ‹_›)).symm) (hO.out _)
      ·exact⟨⟨k'+1,by go_num,by omega,hG.out.next HX.out (XbH ‹_›),_,rfl⟩,by simp[intOf];omega⟩
     ·go_wp2;go_ret;exact Xc.mk (congrArg Value.bool (hI.out k k' hQ.out hL.out (show l'.length<=k' by omega) hG.out).symm) (hO.out _)
end Go.Proofs.YtdcahhbipeaggaaGreatDoor
namespace Go.Proofs.YtdcahhbipeaggaaGreatDoor
open Go.RowKit
def ZE(p:Nat):Value:=.pointer (some ⟨p,0,none⟩)
section
variable {P:Program} {ops:Array Oper} {md:Region.Mode}
def XiY(P:Program)(md:Region.Mode)(ops:Array Oper)(C:List (Nat×Nat)->World->Prop)(n m:Nat)(dst:Nat->Tmp)(L:List (Nat×Nat)->Array Bool->Act->Prop):Nat->List (Nat×Nat)->Array Bool->Act->Prop
 |0,fl,listed,a=>L fl listed a
 |f+1,fl,listed,a=>Region.ready md ops listed≠[]/\∀i∈Region.ready md ops listed,
  (i<n/\qOp P ops (C fl) i (XiY P md ops C n m dst L f fl (listed.setIfInBounds i true)) a)\/
  (n<=i/\i<m/\∀p,XiY P md ops C n m dst L f ((i,p)::fl) (listed.setIfInBounds i true) (a.put (some (dst i)) (ZE p)))
structure Xgo(P:Program)(ops:Array Oper)(n m:Nat)(dst:Nat->Tmp)(obj:Nat->Obj):Prop where
 op:∀j,n<=j->j<m->∃oj,ops[j]? =some oj/\oj.guard=none/\oj.dst=some (dst j)/\∀(a:Act) (w:World),(execOp a.eval oj).run P w=.ok (.value (ZE w.heap.size)) (w.alloc (obj j))
theorem XcS{C:List (Nat×Nat)->World->Prop}{n m g:Nat}{dst:Nat->Tmp}{obj:Nat->Obj}{L:List (Nat×Nat)->Array Bool->Act->Prop}{Q':Exit->Act->World->Prop}(hF:Xgo P ops n m dst obj)
 (hC:∀fl w j,n<=j->j<m->C fl w->C ((j,w.heap.size)::fl) (w.alloc (obj j))) (hL:∀fl listed a w,C fl w->L fl listed a->wpAny P md ops Q' g listed a w):
 ∀(f:Nat) (fl:List (Nat×Nat)) (listed:Array Bool) (a:Act) (w:World),C fl w->XiY P md ops C n m dst L f fl listed a->wpAny P md ops Q' (f+g) listed a w
 |0,_,_,_,_,hw,h=>by rw[Nat.zero_add];exact hL _ _ _ _ hw h
 |f+1,fl,listed,a,w,hw,h=>by
  rw[show f+1+g=(f+g)+1 by omega];refine⟨λh0=>absurd h0 h.1,λi hi=> ?_⟩;rcases h.2 i hi with ⟨-,hq⟩|⟨h1,h2,hp⟩
  ·exact wpOp_of_qOp hw (λa' w' hD h'=>XcS hF hC hL f fl _ a' w' hD h') hq
  ·obtain⟨oj,ho,hg,hd,he⟩:=hF.op i h1 h2;unfold wpOp;simp only[ho];rw[if_pos (by simp[Region.wanted,hg])];refine .inl ?_;unfold Oper.wp;rw[he a w];simp only[Oper.upon];rw[hd];exact XcS hF hC hL f _ _ _ _ (hC fl w i h1 h2 hw) (hp w.heap.size)
structure Xfg(md:Region.Mode)(ops:Array Oper)(n m:Nat):Prop where
 sel:Region.noSelect ops=true
 nm:n<=m
 ms:m<ops.size
 head:∀k o,k<n->ops[k]? =some o->∀e∈o.after,Region.binds md e=true->e.on<k
 flo:∀k o,n<=k->k<m->ops[k]? =some o->∀e∈o.after,Region.binds md e=false
 apart:∀k j ok oj,k<n->k<j->j<m->ops[k]? =some ok->ops[j]? =some oj->(∀e∈oj.after,Region.binds md e=true->e.on≠k)->ok.apart ops oj=true
 sink:∀i,i<m->∃j,i<j/\j<=m/\Region.waitsFor md ops j i=true
 chain:∀t,m<t->t<ops.size->Region.waitsFor md ops t (t-1)=true
structure Xsp(md:Region.Mode)(ops:Array Oper)(m:Nat)(listed:Array Bool):Prop where
 closed:∀j o,ops[j]? =some o->listed.getD j false=true->∀e∈o.after,Region.binds md e=true->listed.getD e.on false=true
 tail:∀t,m<=t->listed.getD t false=false
theorem Xsp.set{m i:Nat}{listed:Array Bool}(h:Xsp md ops m listed)(hi:i∈Region.ready md ops listed)(hG:i<m):Xsp md ops m (listed.setIfInBounds i true):=
 ⟨λj o ho hl e he hb=>by
  by_cases hD:i=j
  ·subst hD;obtain⟨-,o',hE,hC⟩:=mem_ready.1 hi;obtain rfl:=Option.some.inj (hE.symm.trans ho);exact getD_set_true (hC e he hb)
  ·rw[getD_set_ne false hD] at hl
   exact getD_set_true (h.closed j o ho hl e he hb),λt ht=>by rw[getD_set_ne false (by omega)];exact h.tail t ht⟩
theorem Xfg.waits{n m:Nat}(h:Xfg md ops n m){listed:Array Bool}(inv:Xsp md ops m listed){t i:Nat}(ht:t∈Region.ready md ops listed)(hm:m<=t)(hi:i<m):listed.getD i false=true:=by
 obtain⟨-,o,ho,hC⟩:=mem_ready.1 ht;have hH:=(agS ho).1;rcases Nat.lt_or_ge m t with h1|h1
 ·obtain⟨o',hD,e,he,hb,hE⟩:=Region.waitsFor_spec (h.chain t h1 hH);obtain rfl:=Option.some.inj (hD.symm.trans ho);have h2:=hC e he hb;rw[hE,inv.tail (t-1) (by omega)] at h2;cases h2
 ·obtain rfl:t=m:=by omega
  have key:∀d i,t-i=d->i<t->listed.getD i false=true:=by
   intro d;induction d using Nat.strongRecOn with
   |_ d ih=>
    intro i hd hi;obtain⟨j,hI,hJ,hw⟩:=h.sink i hi;obtain⟨o',hD,e,he,hb,hE⟩:=Region.waitsFor_spec hw;rcases Nat.lt_or_ge j t with hG|hG
    ·have h2:=ih (t-j) (by omega) j rfl hG;rw[<-hE];exact inv.closed j o' hD h2 e he hb
    ·obtain rfl:j=t:=by omega
     obtain rfl:=Option.some.inj (hD.symm.trans ho);rw[<-hE];exact hC e he hb
  exact key _ i rfl hi
theorem XsN{C:List (Nat×Nat)->World->Prop}{fl:List (Nat×Nat)}{j:Nat}{oi oj:Oper}{v:Value}(hj:ops[j]? =some oj)(hC:oi.apart ops oj=true)
 (hD:∀cs b,oi.op≠ .select cs b) (hE:∀cs b,oj.op≠ .select cs b) {K:Act->Prop} {a:Act}
 (hy:∀fl,YieldsIn P ops (C fl) oi v a) (h:qOp P ops (C fl) j K (a.put oi.dst v)):
 qOp P ops (C fl) j (λa'=>(∀fl,YieldsIn P ops (C fl) oi v a')/\K (a'.put oi.dst v)) a:=by
 obtain⟨h1,h2,h3⟩:=Oper.apart_spec hC;have keep:∀u fl',YieldsIn P ops (C fl') oi v (a.put oj.dst u):=λu fl'=>
  (hy fl').of_same (execOp_put oi hD a oj.dst u h3) (wanted_put oi a oj.dst u h3)
 unfold qOp at*;simp only[hj] at*;rw[wanted_put oj a oi.dst v h1] at h;split
 ·rename_i hw
  simp only[hw,if_true] at h;obtain⟨u,hu,hn⟩:=h;refine⟨u,λw hG=> ?_,keep u,by rw[<-Act.put_comm a v u h2];exact hn⟩;have:=hu w hG;unfold Oper.quietAt at*
  rwa [execOp_put oj hE a oi.dst v h1] at this
 ·rename_i hw
  simp only[hw] at h;exact⟨keep _,by rw[<-Act.put_comm a v undef h2];exact h⟩
theorem XdA{C:List (Nat×Nat)->World->Prop}{n m i:Nat}{dst:Nat->Tmp}{obj:Nat->Obj}{oi:Oper}{v:Value}{L:List (Nat×Nat)->Array Bool->Act->Prop}(hi:ops[i]? =some oi)(hs:Xfg md ops n m)(hF:Xgo P ops n m dst obj)
 (hG:i<n) (hC:∀fl listed a,L fl listed a->∀j∈Region.ready md ops listed,m<=j):
 ∀(f:Nat) (fl:List (Nat×Nat)) (listed:Array Bool) (a:Act),Xsp md ops m listed->(∀j,j<i->listed.getD j false=true)->i∈Region.ready md ops listed->(∀fl,YieldsIn P ops (C fl) oi v a)->
  XiY P md ops C n m dst L f fl (listed.setIfInBounds i true) (a.put oi.dst v)->XiY P md ops C n m dst L (f+1) fl listed a
 |f,fl,listed,a,inv,hH,hr,hy,H=>by
  have hT:=(mem_ready.1 hr).1;have hI:=getD_both hT;refine⟨λh=>(by rw[h] at hr;cases hr),λj hj=> ?_⟩;have hK:j<m:=(Nat.lt_or_ge j m).elim id λh=>absurd (hs.waits inv hj h (Nat.lt_of_lt_of_le hG hs.nm)) (by rw[hI];simp);by_cases hE:j=i
  ·subst hE;exact .inl ⟨hG,(hy fl).qOp hi H⟩
  ·have hP:=ready_mono hj hE;cases f with
   |zero=>exact absurd (hC _ _ _ H j hP) (by omega)
   |succ f=>
    obtain⟨hL,oj,hJ,hM⟩:=mem_ready.1 hj;have hU:i<j:=by
     rcases Nat.lt_or_gt_of_ne hE with h|h
     ·have h1:=hH j h;have h2:=getD_both hL;rw[h1] at h2;cases h2
     ·exact h
    have hN:∀e∈oj.after,Region.binds md e=true->e.on≠i:=λe he hb heq=>by
     have h1:=hM e he hb;rw[heq,hI] at h1;cases h1
    have hQ:=hs.apart i j oi oj hG hU hK hi hJ hN;have hR:∀cs b,oi.op≠ .select cs b:=λcs b=>Region.noSelect_spec hs.sel i oi cs b hi;have hV:∀cs b,oj.op≠ .select cs b:=λcs b=>Region.noSelect_spec hs.sel j oj cs b hJ;have hD:∀k,k<i->(listed.setIfInBounds j true).getD k false=true:=λk hk=>getD_set_true (hH k hk);rcases H.2 j hP with ⟨hW,hq⟩|⟨h1,h2,hp⟩
    ·refine .inl ⟨hW,?_⟩;refine qOp_mono (λa' h3=>XdA hi hs hF hG hC f fl (listed.setIfInBounds j true) a' (inv.set hj hK) hD (ready_mono hr (Ne.symm hE)) h3.1 ?_) (XsN hJ hQ hR hV hy hq);rw[Array.setIfInBounds_comm _ _ hE];exact h3.2
    ·obtain⟨oj',hO,-,hd,-⟩:=hF.op j h1 h2;obtain rfl:=Option.some.inj (hO.symm.trans hJ);obtain⟨h4,h5,h6⟩:=Oper.apart_spec hQ;refine .inr ⟨h1,h2,λp=> ?_⟩;rw[<-hd];refine XdA hi hs hF hG hC f _ (listed.setIfInBounds j true) _ (inv.set hj hK) hD (ready_mono hr (Ne.symm hE)) (λfl'=>(hy fl').of_same (execOp_put oi hR a _ _ h6) (wanted_put oi a _ _ h6)) ?_;rw[Array.setIfInBounds_comm _ _ hE,<-Act.put_comm a v _ h5,hd];exact hp p
def Xc1(dst:Nat->Tmp):List (Nat×Nat)->Act->Act
 |[],a=>a
 |(j,p)::fl,a=>(Xc1 dst fl a).put (some (dst j)) (ZE p)
theorem XkA(dst:Nat->Tmp)(d:Option Tmp)(v:Value):∀(fl:List (Nat×Nat)) (a:Act),(∀jp∈fl,d≠some (dst jp.1))->Xc1 dst fl (a.put d v)=(Xc1 dst fl a).put d v
 |[],_,_=>rfl
 |(j,p)::fl,a,h=>by
  rw[Xc1,Xc1,XkA dst d v fl a (λjp hC=>h jp (by simp[hC]))];exact Act.put_comm _ _ _ (λe he hd=>h (j,p) (by simp) (by rw[he,hd]))
theorem XfB{C:List (Nat×Nat)->World->Prop}{o:Oper}{v:Value}{dst:Nat->Tmp}(hs:∀cs b,o.op≠ .select cs b){fl':List (Nat×Nat)}:∀(fl:List (Nat×Nat)) (a:Act),(∀jp∈fl,dst jp.1∉o.looksAt ops)->YieldsIn P ops (C fl') o v a->YieldsIn P ops (C fl') o v (Xc1 dst fl a)
 |[],_,_,h=>h
 |(j,p)::fl,a,hn,h=>by
  have h1:=XfB hs fl a (λjp hC=>hn jp (by simp[hC])) h;have h2:∀d,some (dst j)=some d->d∉o.looksAt ops:=λd hd=>by cases hd;exact hn (j,p) (by simp)
  exact h1.of_same (execOp_put o hs _ _ _ h2) (wanted_put o _ _ _ h2)
theorem Xkz{C:World->Prop}{A:Act}{d:Tmp}:∀(l:List Oper) (a:Act),(∀o∈l,o.dst≠some d)->wpQuiet P ops C (λa'=>a'=A) l a->A.tmps.getD d undef=a.tmps.getD d undef/\A.tmps.size=a.tmps.size
 |[],a,_,h=>by
  have:a=A:=h;rw[this];exact⟨rfl,rfl⟩
 |o::l,a,hd,h=>by
  have h0:∃v,wpQuiet P ops C (λa'=>a'=A) l (a.put o.dst v):=by
   unfold wpQuiet at h;split at h
   ·obtain⟨v,-,h2⟩:=h;exact⟨v,h2⟩
   ·exact⟨undef,h⟩
  obtain⟨v,hv⟩:=h0;obtain⟨h1,h2⟩:=Xkz l _ (λo' hC=>hd o' (by simp[hC])) hv;have h3:=hd o (by simp);cases he:o.dst with
  |none=>rw[he] at h1 h2;exact⟨h1,h2⟩
  |some t=>
   rw[he] at h1 h2 h3;have hD:t≠d:=λe=>h3 (by rw[e]);simp only[Act.put] at h1 h2;refine⟨?_,by simpa using h2⟩;rw[h1];simp[Array.getElem?_setIfInBounds_ne hD]
structure StF(ops:Array Oper)(n m k:Nat)(u:List Nat)(fl:List (Nat×Nat))(listed:Array Bool):Prop where
 size:listed.size=ops.size
 done:∀i,i<k->listed.getD i false=true
 todo:∀i,k<=i->i<n->listed.getD i false=false
 flo:∀i,n<=i->i<m->(listed.getD i false=true↔i∉u)
 tail:∀i,m<=i->listed.getD i false=false
 sub:∀i∈u,n<=i/\i<m
 nodup:u.Nodup
 keys:∀jp∈fl,n<=jp.1/\jp.1<m/\jp.1∉u
 all:∀i,n<=i->i<m->i∉u->∃p,(i,p)∈fl
 once:(fl.map Prod.fst).Nodup
theorem StF.inv{n m k:Nat}{u:List Nat}{fl:List (Nat×Nat)}{listed:Array Bool}(hs:Xfg md ops n m)(st:StF ops n m k u fl listed):Xsp md ops m listed:=
 ⟨λj o ho hl e he hb=>by
  rcases Nat.lt_or_ge j n with hC|hC
  ·have hE:j<k:=by
    rcases Nat.lt_or_ge j k with h|h
    ·exact h
    ·rw[st.todo j h hC] at hl;cases hl
   exact st.done e.on (Nat.lt_trans (hs.head j o hC ho e he hb) hE)
  ·rcases Nat.lt_or_ge j m with hD|hD
   ·rw[hs.flo j o hC hD ho e he] at hb;cases hb
   ·rw[st.tail j hD] at hl;exact absurd hl (by simp),st.tail⟩
structure Xwd(ops:Array Oper)(n m:Nat)(dst:Nat->Tmp)(S:Nat):Prop where
 dst:∀k o,k<n->ops[k]? =some o->∃d,o.dst=some d/\d<S/\(∀j o',k<j->j<n->ops[j]? =some o'->o'.dst≠some d)/\∀j,n<=j->j<m->dst j≠d
theorem XeA{listed:Array Bool}{i:Nat}(h:i<listed.size):(listed.setIfInBounds i true).getD i false=true:=by simp[h]
def Xwc(ops:Array Oper)(n m:Nat)(dst:Nat->Tmp)(A:Act)(fl:List (Nat×Nat))(listed:Array Bool)(a:Act):Prop:=StF ops n m n [] fl listed/\a=Xc1 dst fl A
theorem Xi4{C:List (Nat×Nat)->World->Prop}{n m:Nat}{dst:Nat->Tmp}{A:Act}(hs:Xfg md ops n m):
 ∀(r:Nat) (u:List Nat) (fl:List (Nat×Nat)) (listed:Array Bool),u.length=r->StF ops n m n u fl listed->XiY P md ops C n m dst (Xwc ops n m dst A) r fl listed (Xc1 dst fl A)
 |0,u,fl,listed,hu,st=>by
  obtain rfl:=List.eq_nil_of_length_eq_zero hu;exact⟨st,rfl⟩
 |r+1,u,fl,listed,hu,st=>by
  obtain⟨j,hj⟩:∃j,j∈u:=by
   cases u with
   |nil=>simp at hu
   |cons j u=>exact⟨j,by simp⟩
  obtain⟨h1,h2⟩:=st.sub j hj;have hJ:listed.getD j false=false:=by
   cases h:listed.getD j false with
   |false=>rfl
   |true=>exact absurd hj ((st.flo j h1 h2).1 h)
  have hH:j<ops.size:=Nat.lt_trans h2 hs.ms;have hK:j∈Region.ready md ops listed:=by
   rw[mem_ready];refine⟨getD_in (by rw[st.size];exact hH) hJ,ops[j],Array.getElem?_eq_getElem hH,λe he hb=> ?_⟩;rw[hs.flo j ops[j] h1 h2 (Array.getElem?_eq_getElem hH) e he] at hb;cases hb
  refine⟨λh=>(by rw[h] at hK;cases hK),λi hi=> .inr ?_⟩;have hC:=getD_both (mem_ready.1 hi).1;have hI:n<=i:=by
   rcases Nat.lt_or_ge i n with h|h
   ·rw[st.done i h] at hC;cases hC
   ·exact h
  have hG:i<m:=by
   rcases Nat.lt_or_ge i m with h|h
   ·exact h
   ·have:=hs.waits (st.inv hs) hi h h2;rw[hJ] at this;cases this
  refine⟨hI,hG,λp=> ?_⟩;have hL:i∈u:=by
   by_cases h:i∈u
   ·exact h
   ·rw[(st.flo i hI hG).2 h] at hC;cases hC
  refine Xi4 hs r (u.erase i) ((i,p)::fl) (listed.setIfInBounds i true) (by rw[List.length_erase_of_mem hL];omega) ⟨by simp[st.size],λk hk=>getD_set_true (st.done k hk),λk h3 h4=>by omega,λk h3 h4=> ?_,λk hk=> ?_,λk hk=>st.sub k (List.mem_of_mem_erase hk),st.nodup.erase i,λjp hE=> ?_,λk h3 h4 h5=> ?_,?_⟩
  ·by_cases hD:i=k
   ·subst hD;simp only[XeA (show i<listed.size by rw[st.size];exact Nat.lt_trans hG hs.ms),true_iff];exact λh=>(List.Nodup.mem_erase_iff st.nodup).1 h|>.1 rfl
   ·rw[getD_set_ne false hD,st.flo k h3 h4,List.Nodup.mem_erase_iff st.nodup];simp[Ne.symm hD]
  ·rw[getD_set_ne false (by omega)];exact st.tail k hk
  ·rcases List.mem_cons.1 hE with rfl|hE
   ·exact⟨hI,hG,λh=>(List.Nodup.mem_erase_iff st.nodup).1 h|>.1 rfl⟩
   ·obtain⟨a,b,c⟩:=st.keys jp hE;exact⟨a,b,λh=>c (List.mem_of_mem_erase h)⟩
  ·by_cases hD:k=i
   ·subst hD;exact⟨p,by simp⟩
   ·obtain⟨q,hq⟩:=st.all k h3 h4 (λh=>h5 ((List.Nodup.mem_erase_iff st.nodup).2 ⟨hD,h⟩));exact⟨q,by simp[hq]⟩
  ·rw[List.map_cons,List.nodup_cons];refine⟨λh=> ?_,st.once⟩;obtain⟨jp,hE,e⟩:=List.mem_map.1 h;exact(st.keys jp hE).2.2 (by rw[e];exact hL)
theorem Xk0{C:List (Nat×Nat)->World->Prop}{n m:Nat}{dst:Nat->Tmp}{obj:Nat->Obj}{A:Act}(hs:Xfg md ops n m)(hF:Xgo P ops n m dst obj)(hd:Xwd ops n m dst A.tmps.size)(hE:∃w,C [] w):
 ∀(l:List Oper) (k:Nat) (u:List Nat) (fl:List (Nat×Nat)) (listed:Array Bool) (a:Act),(∀j,j<l.length->l[j]? =ops[k+j]?)->k+l.length=n->StF ops n m k u fl listed->a.tmps.size=A.tmps.size->
  (∀fl,(∃w,C fl w)->wpQuiet P ops (C fl) (λa'=>a'=A) l a)->XiY P md ops C n m dst (Xwc ops n m dst A) (l.length+u.length) fl listed (Xc1 dst fl a)
 |[],k,u,fl,listed,a,_,hk,st,_,h=>by
  have hR:k=n:=by simpa using hk
  subst hR;have e:a=A:=h [] hE;subst e;have:=Xi4 (C:=C) (P:=P) (dst:=dst) (A:=a) hs u.length u fl listed rfl st;simpa using this
 |o::l,k,u,fl,listed,a,hl,hk,st,hsz,h=>by
  have h0:ops[k]? =some o:=by simpa using(hl 0 (by simp)).symm
  have hG:k<n:=by simp only[List.length_cons] at hk;omega
  obtain⟨d,hI,hT,hU,hV⟩:=hd.dst k o hG h0;have hP:∀j,j<l.length->l[j]? =ops[k+1+j]? :=λj hj=>by
   have:=hl (j+1) (by simp;omega);simpa[Nat.add_assoc,Nat.add_comm 1 j] using this
  have hW:∀o'∈l,o'.dst≠some d:=λo' hX=>by
   obtain⟨j,hj,e⟩:=List.getElem_of_mem hX;have h1:=hP j hj;rw[lgE hj,e] at h1;exact hU (k+1+j) o' (by omega) (by simp only[List.length_cons] at hk;omega) h1.symm
  have hC:∀fl',(∃w,C fl' w)->YieldsIn P ops (C fl') o (A.tmps.getD d undef) a/\wpQuiet P ops (C fl') (λa'=>a'=A) l (a.put o.dst (A.tmps.getD d undef)):=λfl' hD=>by
   have hY:qOp P ops (C fl') k (wpQuiet P ops (C fl') (λa'=>a'=A) l) a:=by unfold qOp;simp only[h0];exact h fl' hD
   obtain⟨v,hy,hK⟩:=yieldsIn_of_qOp h0 hY;have e1:=(Xkz l _ hW hK).1;have e2:(a.put o.dst v).tmps.getD d undef=v:=by
    rw[hI];simp[Act.put,hsz,hT]
   rw[e2] at e1;rw[e1];exact⟨hy,hK⟩
  have hH:∀fl',YieldsIn P ops (C fl') o (A.tmps.getD d undef) a:=λfl'=>by
   by_cases hD:∃w,C fl' w
   ·exact(hC fl' hD).1
   ·rcases(hC [] hE).1 with ⟨hw,-⟩|hw
    ·exact .inl ⟨hw,λw hZ=>absurd ⟨w,hZ⟩ hD⟩
    ·exact .inr hw
  have hJ:∀cs b,o.op≠ .select cs b:=λcs b=>Region.noSelect_spec hs.sel k o cs b h0;rw[show(o::l).length+u.length=(l.length+u.length)+1 by simp only[List.length_cons];omega];refine XdA (v:=A.tmps.getD d undef) h0 hs hF hG (λfl' li a' hL j hj=> ?_) (l.length+u.length) fl listed _ (st.inv hs) st.done ?_ (λfl'=> ?_) ?_
  ·rcases Nat.lt_or_ge j m with hM|hM
   ·have h1:=getD_both (mem_ready.1 hj).1;rcases Nat.lt_or_ge j n with hN|hN
    ·rw[hL.1.done j hN] at h1;cases h1
    ·rw[(hL.1.flo j hN hM).2 (by simp)] at h1;cases h1
   ·exact hM
  ·rw[mem_ready];have pA:k<listed.size:=by rw[st.size];exact(agS h0).1
   exact⟨getD_in pA (st.todo k nr hG),o,h0,λe he hb=>st.done e.on (hs.head k o hG h0 e he hb)⟩
  ·refine XfB hJ fl a (λjp hO=> ?_) (hH fl');obtain⟨h1,h2,-⟩:=st.keys jp hO;obtain⟨oj,hQ,-,pB,-⟩:=hF.op jp.1 h1 h2;have pC:=hs.apart k jp.1 o oj hG (by omega) h2 h0 hQ (λe he hb=>by rw[hs.flo jp.1 oj h1 h2 hQ e he] at hb;cases hb);exact(Oper.apart_spec pC).2.2 _ pB
  ·rw[<-XkA dst o.dst _ fl a (λjp hO=>by
    obtain⟨h1,h2,-⟩:=st.keys jp hO;rw[hI];intro e
    exact hV jp.1 h1 h2 (Option.some.inj e).symm)]
   refine Xk0 hs hF hd hE l (k+1) u fl (listed.setIfInBounds k true) _ hP (by simp only[List.length_cons] at hk;omega) ⟨by simp[st.size],λi hi=> ?_,λi h1 h2=> ?_,λi h1 h2=> ?_,λi hi=> ?_,st.sub,st.nodup,st.keys,st.all,st.once⟩ (by rw[hI];simp[Act.put,hsz]) (λfl' hD=>(hC fl' hD).2)
   ·by_cases pD:k=i
    ·subst pD;exact XeA (by rw[st.size];exact(agS h0).1)
    ·exact getD_set_true (st.done i (by omega))
   ·rw[getD_set_ne false (by omega)];exact st.todo i (by omega) h2
   ·rw[getD_set_ne false (by omega)];exact st.flo i h1 h2
   ·rw[getD_set_ne false (by have:=hs.nm;omega)];exact st.tail i hi
end
def Xej(ops:Array Oper)(n m:Nat)(dst:Nat->Tmp)(S:Nat):Bool:=
 (List.range n).all λk=>match ops[k]? with
   |some o=>(match o.dst with
    |some d=>decide (d<S)&&((List.range n).all λj=>decide (j<=k)||(match ops[j]? with|some o'=>o'.dst !=some d|none=>true))&&((List.range m).all λj=>decide (j<n)||dst j !=d)
    |none=>false)
   |none=>true
theorem XvM{ops:Array Oper}{n m S:Nat}{dst:Nat->Tmp}(h:Xej ops n m dst S=true):Xwd ops n m dst S:=⟨λk o hk ho=>by
 have h1:=List.all_eq_true.1 h k (List.mem_range.2 hk);simp only[ho] at h1;cases hd:o.dst with
 |none=>rw[hd] at h1;cases h1
 |some d=>
  simp only[hd,bae,decide_eq_true_eq] at h1;refine⟨d,rfl,h1.1.1,λj o' hE hj hC=> ?_,λj hj hD=> ?_⟩
  ·have h2:=List.all_eq_true.1 h1.1.2 j (List.mem_range.2 hj);simp only[Bool.or_eq_true,decide_eq_true_eq,hC,bne_iff_ne] at h2;rcases h2 with h2|h2
   ·omega
   ·exact h2
  ·have h2:=List.all_eq_true.1 h1.2 j (List.mem_range.2 hD);simp only[Bool.or_eq_true,decide_eq_true_eq,bne_iff_ne] at h2;rcases h2 with h2|h2
   ·omega
   ·exact h2⟩
def Xbf(md:Region.Mode)(ops:Array Oper)(n m:Nat):Bool:=
 Region.noSelect ops&&decide (n<=m)&&decide (m<ops.size)&&
 ((List.range n).all λk=>match ops[k]? with|some o=>o.after.all λe=> !Region.binds md e||decide (e.on<k)|none=>true)&&
 ((List.range m).all λk=>decide (k<n)||(match ops[k]? with|some o=>o.after.all λe=> !Region.binds md e|none=>true))&&
 ((List.range n).all λk=>(List.range m).all λj=>decide (j<=k)||(match ops[k]?,ops[j]? with|some ok,some oj=>(oj.after.any λe=>Region.binds md e&&e.on==k)||ok.apart ops oj|_,_=>true))&&
 ((List.range m).all λi=>(List.range (m+1)).any λj=>decide (i<j)&&Region.waitsFor md ops j i)&&
 ((List.range ops.size).all λt=>decide (t<=m)||Region.waitsFor md ops t (t-1))&&
 Region.seqB md ops (ops.size-m) m ((List.range ops.size).map λi=>decide (i<m)).toArray
theorem XtH{md:Region.Mode}{ops:Array Oper}{n m:Nat}(h:Xbf md ops n m=true):Xfg md ops n m/\Region.seqB md ops (ops.size-m) m ((List.range ops.size).map λi=>decide (i<m)).toArray=true:=by
 simp only[Xbf,bae,decide_eq_true_eq] at h;obtain⟨⟨⟨⟨⟨⟨⟨⟨h1,h2⟩,h3⟩,h4⟩,h5⟩,h6⟩,h7⟩,h9⟩,h8⟩:=h;refine⟨⟨h1,h2,h3,λk o hk ho e he hb=> ?_,λk o hn hk ho e he=> ?_,λk j ok oj hk hH hj hD hE hC=> ?_,λi hi=> ?_,λt ht hG=> ?_⟩,h8⟩
 ·have:=List.all_eq_true.1 h4 k (List.mem_range.2 hk);simp only[ho] at this;have:=Array.all_eq_true_iff_forall_mem.1 this e he;simp only[hb,Bool.not_true,Bool.false_or,decide_eq_true_eq] at this;exact this
 ·have:=List.all_eq_true.1 h5 k (List.mem_range.2 hk);simp only[ho,Bool.or_eq_true,decide_eq_true_eq] at this;rcases this with this|this
  ·omega
  ·have:=Array.all_eq_true_iff_forall_mem.1 this e he;simpa using this
 ·have:=List.all_eq_true.1 (List.all_eq_true.1 h6 k (List.mem_range.2 hk)) j (List.mem_range.2 hj);simp only[hD,hE,Bool.or_eq_true,decide_eq_true_eq] at this;rcases this with this|this|this
  ·omega
  ·obtain⟨e,he,hb⟩:=Array.any_eq_true'.1 this;simp only[bae,beq_iff_eq] at hb;exact absurd hb.2 (hC e he hb.1)
  ·exact this
 ·have:=List.all_eq_true.1 h7 i (List.mem_range.2 hi);obtain⟨j,hj,h2⟩:=List.any_eq_true.1 this;simp only[bae,decide_eq_true_eq] at h2;exact⟨j,h2.1,by have:=List.mem_range.1 hj;omega,h2.2⟩
 ·have:=List.all_eq_true.1 h9 t (List.mem_range.2 hG);simp only[Bool.or_eq_true,decide_eq_true_eq] at this;rcases this with this|this
  ·omega
  ·exact this
def Xvr(B:Nat)(obj:Nat->Obj)(fl:List (Nat×Nat))(w:World):Prop:=(∀jp∈fl,B<=jp.2/\jp.2<w.heap.size/\w.heap[jp.2]? =some (obj jp.1))/\(fl.map Prod.snd).Nodup
def AF(B:Nat)(w:World)(obj:Nat->Obj)(fl:List (Nat×Nat)):Type:={x:Xb B w//Xvr B obj fl x.val}
theorem Xvr.below{B:Nat}{obj:Nat->Obj}{fl:List (Nat×Nat)}{w w':World}(h:Xvr B obj fl w)(hb:Below w.heap.size w w'):Xvr B obj fl w':=
 ⟨λjp hC=>by
  obtain⟨h1,h2,h3⟩:=h.1 jp hC
  exact⟨h1,Nat.lt_of_lt_of_le h2 hb.size,(hb.block _ h2).trans h3⟩,h.2⟩
theorem Xc.afterF{P:Program}{f:FuncId}{args:Array Value}{B:Nat}{w:World}{obj:Nat->Obj}{fl:List (Nat×Nat)}{v:Value}(hB:B<=w.heap.size){x:AF B w obj fl}(h:Calls P f args x.val.val (Xc x.val.val v)):
 Calls P f args x.val.val λe w''=>e=.returned v/\∃y:AF B w obj fl,w''=y.val.val:=
 h.mono λ_ w'' ⟨he,hb⟩=>⟨he,⟨⟨w'',x.val.below.trans (hb.mono (Nat.le_trans hB x.val.below.size))⟩,x.2.below hb⟩,rfl⟩
theorem Xlc{P:Program}{Q:Exit->Act->World->Prop}{a:Act}{B:Nat}{w:World}(x0:Xb B w)(hJ:B<=w.heap.size){l:List Oper}(n m:Nat)(dst:Nat->Tmp)(obj:Nat->Obj)(A:Act)(hB:Xbf .any l.toArray n m=true)
 (hS:Xej l.toArray n m dst A.tmps.size=true) (hsz:a.tmps.size=A.tmps.size) (hF:Xgo P l.toArray n m dst obj)
 (h:∀fl,Nonempty (AF B w obj fl)->wpQuiet P l.toArray (λw'=>∃x:AF B w obj fl,w'=x.val.val) (λa'=>a'=A) (l.take n) a)
 (hT:∀(fl:List (Nat×Nat)) (z:AF B w obj fl),(∀i,n<=i->i<m->∃p,(i,p)∈fl)->(∀jp∈fl,n<=jp.1/\jp.1<m)->(fl.map Prod.fst).Nodup->wpList P l.toArray Q (l.drop m) (Xc1 dst fl A) z.val.val):
 wpAny P .any l.toArray Q l.toArray.size (Array.replicate l.toArray.size false) a {x0.val with drawn:=x0.val.drawn+1}:=by
 obtain⟨hs,hG⟩:=XtH hB;have hP:m<l.length:=by simpa using hs.ms
 have hQ:=hs.nm;have hK:(λw'=>∃x:AF B w obj [],w'=x.val.val) {x0.val with drawn:=x0.val.drawn+1}:=
  ⟨⟨⟨{x0.val with drawn:=x0.val.drawn+1},x0.below.trans ⟨rfl,rfl,rfl,Nat.le_refl _,λ_ _=>rfl⟩⟩,λjp hC=>by simp at hC,by simp⟩,rfl⟩
 have st0:StF l.toArray n m 0 ((List.range (m-n)).map (n+·)) [] (Array.replicate l.toArray.size false):=
  ⟨by simp,λi hi=>by omega,λi _ _=>getD_replicate_false _ _,λi h1 h2=>by
   rw[getD_replicate_false];simp only[Bool.false_eq_true,List.mem_map,List.mem_range,false_iff,Decidable.not_not];exact⟨i-n,by omega,by omega⟩,λi _=>getD_replicate_false _ _,λi hi=>by
   obtain⟨j,hj,rfl⟩:=List.mem_map.1 hi;have:=List.mem_range.1 hj;omega,by
   rw[List.nodup_iff_pairwise_ne,List.pairwise_map]
   exact(List.nodup_range (n:=m-n)).imp (λh e=>h (by omega)),λjp hC=>by simp at hC,λi h1 h2 h3=>absurd (List.mem_map.2 ⟨i-n,List.mem_range.2 (by omega),by omega⟩) h3,by simp⟩
 have H:=Xk0 (C:=λfl w'=>∃x:AF B w obj fl,w'=x.val.val) hs hF (XvM hS) ⟨_,hK⟩ (l.take n) 0 _ [] _ a (λj hj=>by
  have:j<n:=by rw[List.length_take] at hj;omega
  simp[this]) (by rw[List.length_take];omega) st0 hsz (λfl ⟨_,x,_⟩=>h fl ⟨x⟩)
 have key:=XcS (Q':=Q) (g:=l.toArray.size-m) hF (λfl w' j h1 h2 hH=>by
  obtain⟨x,rfl⟩:=hH;have hD:=x.val.below.size;have hM:Below x.val.val.heap.size x.val.val (x.val.val.alloc (obj j)):=brf.alloc nr _;have hk:=x.2.below hM;refine⟨⟨⟨x.val.val.alloc (obj j),x.val.below.trans (hM.mono (Nat.le_trans hJ hD))⟩,λjp hC=> ?_,?_⟩,rfl⟩
  ·rcases List.mem_cons.1 hC with rfl|hC
   ·exact⟨Nat.le_trans hJ hD,by simp,heap_alloc_new _ _⟩
   ·exact hk.1 jp hC
  ·rw[List.map_cons,List.nodup_cons];refine⟨λhm=> ?_,hk.2⟩;obtain⟨jp,hC,e⟩:=List.mem_map.1 hm;have:=(x.2.1 jp hC).2.1
   omega) (λfl li a' w' hH hL=>by
  obtain⟨x,rfl⟩:=hH;obtain⟨st,rfl⟩:=hL;have hO:li=((List.range l.toArray.size).map λi=>decide (i<m)).toArray:=by
   apply Array.ext
   ·rw[st.size];simp
   ·intro i h1 h2;have h3:li.getD i false=li[i]:=by simp[h1]
    rw[<-h3];simp only[List.getElem_toArray,List.getElem_map,List.getElem_range];rcases Nat.lt_or_ge i m with hE|hE
    ·rw[decide_eq_true hE];rcases Nat.lt_or_ge i n with hI|hI
     ·exact st.done i hI
     ·exact(st.flo i hI hE).2 (by simp)
    ·rw[decide_eq_false (by omega)];exact st.tail i hE
  have hN:(l.drop m).length=l.toArray.size-m:=by simp
  have:=wpAny_of_seq (md:=.any) (Q':=Q) (l.drop m) m li _ x.val.val (λj=>by simp[List.getElem?_drop]) (by rw[hN,hO];exact hG) (hT fl x (λi h1 h2=>st.all i h1 h2 (by simp)) (λjp hC=>⟨(st.keys jp hC).1,(st.keys jp hC).2.1⟩) st.once)
  rwa [hN] at this) _ _ _ _ _ hK H
 rw[show(l.take n).length+((List.range (m-n)).map (n+·)).length+(l.toArray.size-m)=l.toArray.size by simp;omega] at key;exact key
def Z8(P:Program)(ops:Array Oper)(j:Nat)(d:Tmp)(o:Obj):Prop:=∃oj,ops[j]? =some oj/\oj.guard=none/\oj.dst=some d/\∀(a:Act) (w:World),(execOp a.eval oj).run P w=.ok (.value (ZE w.heap.size)) (w.alloc o)
theorem Xjj{P:Program}{Q:Exit->Act->World->Prop}{a:Act}{B:Nat}{w:World}(x0:Xb B w)(hG:B<=w.heap.size){l:List Oper}(n:Nat)(d1:Tmp)(o1:Obj)(A:Act)(hB:Xbf .any l.toArray n (n+1)=true)
 (hS:Xej l.toArray n (n+1) (λ_=>d1) A.tmps.size=true) (hsz:a.tmps.size=A.tmps.size) (h1:Z8 P l.toArray n d1 o1)
 (h:∀fl,Nonempty (AF B w (λ_=>o1) fl)->wpQuiet P l.toArray (λw'=>∃x:AF B w (λ_=>o1) fl,w'=x.val.val) (λa'=>a'=A) (l.take n) a)
 (hT:∀(p:Nat) (z:Xb B w),B<=p->p<z.val.heap.size->z.val.heap[p]? =some o1->wpList P l.toArray Q (l.drop (n+1)) (A.put (some d1) (ZE p)) z.val):
 wpAny P .any l.toArray Q l.toArray.size (Array.replicate l.toArray.size false) a {x0.val with drawn:=x0.val.drawn+1}:=
 Xlc x0 hG n (n+1) _ _ A hB hS hsz ⟨λj hj hH=>by(obtain rfl:j=n:=by omega);exact h1⟩ h λfl z hE hC hD=>by
  match fl,hC,hD,hE,z with
  |[],_,_,hE,_=>obtain⟨p,hp⟩:=hE n nr (by omega);simp at hp
  |[(i,p)],_,_,_,z=>
   obtain⟨h2,h3,h4⟩:=z.2.1 (i,p) (by simp);exact hT p z.val h2 h3 h4
  |x::y::r,hC,hD,_,_=>
   have e1:=hC x (by simp);have e2:=hC y (by simp);simp only[List.map_cons,List.nodup_cons,List.mem_cons,not_or] at hD;omega
theorem Xqy{P:Program}{id:Nat}{Q:Exit->Act->World->Prop}{a:Act}{B:Nat}{w:World}(x0:Xb B w)(hC:B<=w.heap.size){l:List Oper}(n:Nat)(d1:Tmp)(o1:Obj)(A:Act)(hm:P.follows .mixedOrders=true)(hB:Xbf .any l.toArray n (n+1)=true)
 (hS:Xej l.toArray n (n+1) (λ_=>d1) A.tmps.size=true) (hsz:a.tmps.size=A.tmps.size) (h1:Z8 P l.toArray n d1 o1)
 (h:∀fl,Nonempty (AF B w (λ_=>o1) fl)->wpQuiet P l.toArray (λw'=>∃x:AF B w (λ_=>o1) fl,w'=x.val.val) (λa'=>a'=A) (l.take n) a)
 (hT:∀(p:Nat) (z:Xb B w),B<=p->p<z.val.heap.size->z.val.heap[p]? =some o1->wpList P l.toArray Q (l.drop (n+1)) (A.put (some d1) (ZE p)) z.val):
 (Code.region id l.toArray true).wp P Q a x0.val:=wp_region_any hm (Xjj x0 hC n d1 o1 A hB hS hsz h1 h hT)
theorem Xji{P:Program}{Q:Exit->Act->World->Prop}{a:Act}{B:Nat}{w:World}(x0:Xb B w)(hH:B<=w.heap.size){l:List Oper}(n:Nat)(d1 d2:Tmp)(o1 o2:Obj)(hd:d1≠d2)(A:Act)(hB:Xbf .any l.toArray n (n+2)=true)
 (hS:Xej l.toArray n (n+2) (λj=>if j=n then d1 else d2) A.tmps.size=true) (hsz:a.tmps.size=A.tmps.size) (h1:Z8 P l.toArray n d1 o1) (h2:Z8 P l.toArray (n+1) d2 o2)
 (h:∀fl,Nonempty (AF B w (λj=>if j=n then o1 else o2) fl)->wpQuiet P l.toArray (λw'=>∃x:AF B w (λj=>if j=n then o1 else o2) fl,w'=x.val.val) (λa'=>a'=A) (l.take n) a)
 (hT:∀(p q:Nat) (z:Xb B w),B<=p->B<=q->p≠q->p<z.val.heap.size->q<z.val.heap.size->z.val.heap[p]? =some o1->z.val.heap[q]? =some o2->wpList P l.toArray Q (l.drop (n+2)) ((A.put (some d1) (ZE p)).put (some d2) (ZE q)) z.val):
 wpAny P .any l.toArray Q l.toArray.size (Array.replicate l.toArray.size false) a {x0.val with drawn:=x0.val.drawn+1}:=
 Xlc x0 hH n (n+2) _ _ A hB hS hsz ⟨λj hj hK=>by
  rcases(show j=n\/j=n+1 by omega) with rfl|rfl
  ·show Z8 P l.toArray j (if j=j then d1 else d2) (if j=j then o1 else o2);rw[if_pos rfl,if_pos rfl];exact h1
  ·show Z8 P l.toArray (n+1) (if n+1=n then d1 else d2) (if n+1=n then o1 else o2)
   rw[if_neg (by omega),if_neg (by omega)];exact h2⟩ h λfl z hE hC hD=>by
  match fl,hC,hD,hE,z with
  |[],_,_,hE,_=>obtain⟨p,hp⟩:=hE n nr (by omega);simp at hp
  |[(i,p)],_,_,hE,_=>
   obtain⟨p1,h5⟩:=hE n nr (by omega);obtain⟨p2,h6⟩:=hE (n+1) (by omega) (by omega);simp only[List.mem_singleton,Prod.mk.injEq] at h5 h6;omega
  |[(i,p),(j,q)],hC,hD,_,z=>
   have e1:=hC (i,p) (by simp);have e2:=hC (j,q) (by simp);have hL:i≠j:=by simpa using hD
   have hG:p≠q:=by have:=z.2.2;simpa using this
   obtain⟨a1,a2,a3⟩:=z.2.1 (i,p) (by simp);obtain⟨b1,b2,b3⟩:=z.2.1 (j,q) (by simp);simp only at e1 e2 a1 a2 a3 b1 b2 b3;rcases(show(i=n/\j=n+1)\/(i=n+1/\j=n) by omega) with ⟨rfl,rfl⟩|⟨rfl,rfl⟩
   ·simp only[if_true,show ¬i+1=i by omega,if_false] at a3 b3;have:=hT p q z.val a1 b1 hG a2 b2 a3 b3;rw[Act.put_comm _ _ _ (λd hI hJ=>hd (by cases hI;cases hJ;rfl))] at this;simpa[Xc1] using this
   ·simp only[if_true,show ¬j+1=j by omega,if_false] at a3 b3;have:=hT q p z.val b1 a1 (Ne.symm hG) b2 a2 b3 a3;simpa[Xc1] using this
  |x::y::u::r,hC,hD,_,_=>
   have e1:=hC x (by simp);have e2:=hC y (by simp);have e3:=hC u (by simp);simp only[List.map_cons,List.nodup_cons,List.mem_cons,not_or] at hD;omega
theorem Xqx{P:Program}{id:Nat}{Q:Exit->Act->World->Prop}{a:Act}{B:Nat}{w:World}(x0:Xb B w)(hC:B<=w.heap.size){l:List Oper}(n:Nat)(d1 d2:Tmp)(o1 o2:Obj)(hd:d1≠d2)(A:Act)(hm:P.follows .mixedOrders=true)(hB:Xbf .any l.toArray n (n+2)=true)
 (hS:Xej l.toArray n (n+2) (λj=>if j=n then d1 else d2) A.tmps.size=true) (hsz:a.tmps.size=A.tmps.size) (h1:Z8 P l.toArray n d1 o1) (h2:Z8 P l.toArray (n+1) d2 o2)
 (h:∀fl,Nonempty (AF B w (λj=>if j=n then o1 else o2) fl)->wpQuiet P l.toArray (λw'=>∃x:AF B w (λj=>if j=n then o1 else o2) fl,w'=x.val.val) (λa'=>a'=A) (l.take n) a)
 (hT:∀(p q:Nat) (z:Xb B w),B<=p->B<=q->p≠q->p<z.val.heap.size->q<z.val.heap.size->z.val.heap[p]? =some o1->z.val.heap[q]? =some o2->wpList P l.toArray Q (l.drop (n+2)) ((A.put (some d1) (ZE p)).put (some d2) (ZE q)) z.val):
 (Code.region id l.toArray true).wp P Q a x0.val:=wp_region_any hm (Xji x0 hC n d1 d2 o1 o2 hd A hB hS hsz h1 h2 h hT)
theorem Xcp{P:Program}{id:Nat}{Q:Exit->Act->World->Prop}{a:Act}{B:Nat}{w:World}(x0:Xb B w)(hC:B<=w.heap.size){l:List Oper}(n:Nat)(d1:Tmp)(o1:Obj)(hm:P.follows .mixedOrders=true)(hB:Xbf .any l.toArray n (n+1)=true)(h1:Z8 P l.toArray n d1 o1)
 (h:∃A:Act,(∀fl,Nonempty (AF B w (λ_=>o1) fl)->wpQuiet P l.toArray (λw'=>∃x:AF B w (λ_=>o1) fl,w'=x.val.val) (λa'=>a'=A) (l.take n) a)/\Xej l.toArray n (n+1) (λ_=>d1) A.tmps.size=true/\a.tmps.size=A.tmps.size/\
   ∀(p:Nat) (z:Xb B w),B<=p->p<z.val.heap.size->z.val.heap[p]? =some o1->wpList P l.toArray Q (l.drop (n+1)) (A.put (some d1) (ZE p)) z.val):
 (Code.region id l.toArray true).wp P Q a x0.val:=by
 obtain⟨A,h2,h3,h4,h5⟩:=h;exact Xqy x0 hC n d1 o1 A hm hB h3 h4 h1 h2 h5
theorem Xco{P:Program}{id:Nat}{Q:Exit->Act->World->Prop}{a:Act}{B:Nat}{w:World}(x0:Xb B w)(hD:B<=w.heap.size){l:List Oper}(n:Nat)(d1 d2:Tmp)(o:Obj)(hd:d1≠d2)(hm:P.follows .mixedOrders=true)(hB:Xbf .any l.toArray n (n+2)=true)(h1:Z8 P l.toArray n d1 o)(h2:Z8 P l.toArray (n+1) d2 o)
 (h:∃A:Act,(∀fl,Nonempty (AF B w (λ_=>o) fl)->wpQuiet P l.toArray (λw'=>∃x:AF B w (λ_=>o) fl,w'=x.val.val) (λa'=>a'=A) (l.take n) a)/\Xej l.toArray n (n+2) (λj=>if j=n then d1 else d2) A.tmps.size=true/\a.tmps.size=A.tmps.size/\
   ∀(p q:Nat) (z:Xb B w),B<=p->B<=q->p≠q->p<z.val.heap.size->q<z.val.heap.size->z.val.heap[p]? =some o->z.val.heap[q]? =some o->wpList P l.toArray Q (l.drop (n+2)) ((A.put (some d1) (ZE p)).put (some d2) (ZE q)) z.val):
 (Code.region id l.toArray true).wp P Q a x0.val:=by
 obtain⟨A,h3,h4,h5,h6⟩:=h;refine Xqx x0 hD n d1 d2 o o hd A hm hB h4 h5 h1 h2 (λfl hC=> ?_) h6;have e:(λj:Nat=>if j=n then o else o)=λ_=>o:=by funext j;split<;>rfl
 rw[e] at hC ⊢;exact h3 fl hC
end Go.Proofs.YtdcahhbipeaggaaGreatDoor
