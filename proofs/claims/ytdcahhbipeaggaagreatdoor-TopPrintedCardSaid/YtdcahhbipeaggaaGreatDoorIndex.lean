/- Lemmas for TopPrinted: Index. -/
import Derived.Test.YtdcahhbipeaggaaGreatDoorProg
import Derived.Test.YtdcahhbipeaggaaGreatDoorData
set_option maxRecDepth 100000
set_option maxHeartbeats 16000000
namespace Go.Proofs.YtdcahhbipeaggaaGreatDoor
open Go.RowKit
def YL{α:Type}(p:α->Bool):Nat->List α->Int
 |_,[]=> -1
 |i,x::l=>if p x then(i:Int) else YL p (i+1) l
def idx{α:Type}(p:α->Bool)(l:List α):Int:=YL p 0 l
theorem XfW{α:Type}{p:α->Bool}:∀(l:List α) (i:Nat),(∀x∈l,p x=false)->YL p i l= -1
 |[],_,_=>rfl
 |x::l,i,h=>by rw[YL,h x (by simp)];exact XfW l (i+1) λy hy=>h y (by simp[hy])
theorem XfV{α:Type}{p:α->Bool}:∀(l:List α) (i k:Nat) (x:α),l[k]? =some x->p x=true->(∀j y,j<k->l[j]? =some y->p y=false)->YL p i l=((i+k:Nat):Int)
 |[],_,_,_,h,_,_=>by simp at h
 |z::l,i,0,x,h,hp,_=>by simp at h;subst h;simp[YL,hp]
 |z::l,i,k+1,x,h,hp,hn=>by
  rw[YL,hn 0 z (by omega) rfl,XfV l (i+1) k x (by simpa using h) hp (λj y hj hy=>hn (j+1) y (by omega) (by simpa using hy))];simp;omega
theorem JF{α:Type}{p:α->Bool}{l:List α}(h:∀j y,j<l.length->l[j]? =some y->p y=false):idx p l= -1:=XfW l 0 λx hx=>by
 obtain⟨j,hj,e⟩:=List.getElem_of_mem hx;exact h j x hj (by rw[lgE hj,e])
theorem QU{α:Type}{p:α->Bool}{l:List α}{k:Nat}{x:α}(h:l[k]? =some x)(hp:p x=true)(hn:∀j y,j<k->l[j]? =some y->p y=false):idx p l=(k:Int):=by
 have:=XfV l 0 k x h hp hn;simpa[idx] using this
theorem Zh{α:Type}(p:α->Bool)(l:List α):decide (0<=idx p l)=l.any p:=by
 have key:∀(l:List α) (i:Nat),decide (0<=YL p i l)=l.any p:=by
  intro l;induction l with
  |nil=>intro i;simp[YL]
  |cons x l ih=>intro i;rw[YL,List.any_cons];cases hp:p x<;>simp[ih]
 exact key l 0
theorem Qw{α:Type}{p:α->Bool}{l:List α}{k:Nat}{z:α}(h:∀j y,j<k->l[j]? =some y->p y=false)(hz:l[k]? =some z)(hp:p z=false):∀j y,j<k+1->l[j]? =some y->p y=false:=λj y hj hy=>by
 by_cases e:j=k
 ·subst e;rw[hz] at hy;injection hy with hy;rw[<-hy];exact hp
 ·exact h j y (by omega) hy
theorem XcA(a b:Value):#[a]++#[b]=#[a,b]:=rfl
theorem XsT(a b c:Value):#[a]++#[b,c]=#[a,b,c]:=rfl
def Zn{α:Type}(P:Program)(g:Nat)(lb:Array Value)(val:α->Value)(p:α->Bool)(B:Nat)(W:World)(l:List α):Prop:=
 ∀(x:Xb B W) (e:α),e∈l->Calls P g (#[val e]++lb) x.val (Xc x.val (.bool (p e)))
def Xss(e:Int):Value:=.int .i64 e
theorem Xl3(A:Option Addr)(cap:Nat)(l:List Int)(p:Int->Bool)(g:Nat)(lb:Array Value)(eg:∀args w,(callFunc g args).run Tryz.prog w=.ok (.enter g args) w)(W:World)(B:Nat)(hB:B<=W.heap.size)(hs:XA W B 1 Xj ⟨A,cap,l⟩)
 (hp:Zn Tryz.prog g lb Xss p W.heap.size W l):
 Calls Tryz.prog 153 #[.slice A l.length cap,.func (.func g) #[] lb] W (Xc W (.int .i64 (idx p l))):=by
 have HS:=Xa hs;have HP:=Xa hp;have hm:cap<=9223372036854775807:=hs.2.1;have hH:l.length<=cap:=hs.1;clear hs hp;go_enter Tryz.func153,Tryz.ntmps153;go_wp2;go_loopw [8] (λv wr=>∃k:Nat,v=.int .i64 k/\k<=l.length/\Hid (∀j y,j<k->l[j]? =some y->p y=false)/\∃x:Xb W.heap.size W,wr=x.val) (λv _=>l.length-(intOf v).toNat)
 case atStart=>exact⟨0,rfl,Nat.zero_le _,λj y hj=>absurd hj (by omega),Xb.refl _ _,rfl⟩
 case round=>
  obtain⟨k,rfl,hk,hD,x,rfl⟩:=hrel;by_cases hE:k<l.length
  ·obtain⟨b,off,hA,hb,hC⟩:=HS.out.2.2 (show 0<l.length by omega);simp only at hA;subst hA;have hx:l[k]? =some l[k]:=lgE hE;have he:=λx:Xb W.heap.size W=>XaL hx (show b<W.heap.size by omega) hC x;have HC:=Xa hC;have HX:=Xa hx;clear hC hx;cases hG:p l[k]
   ·go_wp2_with fail;refine(Xc.after nr (HP.out x l[k] (List.getElem_mem hE))).mono ?_;rintro e w' ⟨rfl,x,rfl⟩;go_wp2;exact⟨⟨k+1,by go_num,by omega,Qw hD.out HX.out hG,_,rfl⟩,by simp[intOf];omega⟩
   ·go_wp2_with fail;refine(Xc.after nr (HP.out x l[k] (List.getElem_mem hE))).mono ?_;rintro e w' ⟨rfl,x,rfl⟩;go_wp2;go_ret;exact Xc.mk (congrArg (Value.int IntKind.i64) (QU HX.out hG hD.out).symm) x.below
  ·go_wp2;go_ret;exact Xc.mk (congrArg (Value.int IntKind.i64) (JF λj y hj hy=>hD.out j y (by omega) hy).symm) x.below
theorem ZQ(A:Option Addr)(cap:Nat)(l:List Int)(p:Int->Bool)(g:Nat)(lb:Array Value)(eg:∀args w,(callFunc g args).run Tryz.prog w=.ok (.enter g args) w)(W:World)(B:Nat)(hB:B<=W.heap.size)(hs:XA W B 1 Xj ⟨A,cap,l⟩)
 (hp:Zn Tryz.prog g lb Xss p W.heap.size W l):
 Calls Tryz.prog 95 #[.slice A l.length cap,.func (.func g) #[] lb] W (Xc W (.bool (l.any p))):=by
 have HS:=Xa hs;have HP:=Xa hp;clear hs hp;go_enter Tryz.func95,Tryz.ntmps95;go_wp2_with fail;refine(Xc.first (Xl3 _ _ l p g lb eg W B hB HS.out HP.out)).mono ?_;rintro e w' ⟨rfl,x,rfl⟩;go_wp2;go_ret;exact Xc.mk (congrArg Value.bool (Zh p l)) x.below
def XpX(e:Xu):Value:=.agg #[.string e.name,.int .i64 e.place,.int .i64 e.width,.int .i64 e.weight,.int .i64 e.hang,.int .i64 e.front,.int .i64 e.back]
theorem XjR(A:Option Addr)(cap:Nat)(l:List Xu)(p:Xu->Bool)(g:Nat)(lb:Array Value)(eg:∀args w,(callFunc g args).run Tryz.prog w=.ok (.enter g args) w)(W:World)(B:Nat)(hB:B<=W.heap.size)(hs:XA W B 7 Xu.cells ⟨A,cap,l⟩)
 (hp:Zn Tryz.prog g lb XpX p W.heap.size W l):
 Calls Tryz.prog 154 #[.slice A l.length cap,.func (.func g) #[] lb] W (Xc W (.int .i64 (idx p l))):=by
 have HS:=Xa hs;have HP:=Xa hp;have hm:cap<=9223372036854775807:=hs.2.1;have hH:l.length<=cap:=hs.1;clear hs hp;go_enter Tryz.func154,Tryz.ntmps154;go_wp2;go_loopw [8] (λv wr=>∃k:Nat,v=.int .i64 k/\k<=l.length/\Hid (∀j y,j<k->l[j]? =some y->p y=false)/\∃x:Xb W.heap.size W,wr=x.val) (λv _=>l.length-(intOf v).toNat)
 case atStart=>exact⟨0,rfl,Nat.zero_le _,λj y hj=>absurd hj (by omega),Xb.refl _ _,rfl⟩
 case round=>
  obtain⟨k,rfl,hk,hD,x,rfl⟩:=hrel;by_cases hE:k<l.length
  ·obtain⟨b,off,hA,hb,hC⟩:=HS.out.2.2 (show 0<l.length by omega);simp only at hA;subst hA;have hx:l[k]? =some l[k]:=lgE hE;have he:=λx:Xb W.heap.size W=>Xu.elem hx (show b<W.heap.size by omega) hC x;have HC:=Xa hC;have HX:=Xa hx;clear hC hx;cases hG:p l[k]
   ·go_wp2_with fail;refine(Xc.after nr (HP.out x l[k] (List.getElem_mem hE))).mono ?_;rintro e w' ⟨rfl,x,rfl⟩;go_wp2;exact⟨⟨k+1,by go_num,by omega,Qw hD.out HX.out hG,_,rfl⟩,by simp[intOf];omega⟩
   ·go_wp2_with fail;refine(Xc.after nr (HP.out x l[k] (List.getElem_mem hE))).mono ?_;rintro e w' ⟨rfl,x,rfl⟩;go_wp2;go_ret;exact Xc.mk (congrArg (Value.int IntKind.i64) (QU HX.out hG hD.out).symm) x.below
  ·go_wp2;go_ret;exact Xc.mk (congrArg (Value.int IntKind.i64) (JF λj y hj hy=>hD.out j y (by omega) hy).symm) x.below
theorem Xcd(A:Option Addr)(cap:Nat)(l:List Xu)(p:Xu->Bool)(g:Nat)(lb:Array Value)(eg:∀args w,(callFunc g args).run Tryz.prog w=.ok (.enter g args) w)(W:World)(B:Nat)(hB:B<=W.heap.size)(hs:XA W B 7 Xu.cells ⟨A,cap,l⟩)
 (hp:Zn Tryz.prog g lb XpX p W.heap.size W l):
 Calls Tryz.prog 97 #[.slice A l.length cap,.func (.func g) #[] lb] W (Xc W (.bool (l.any p))):=by
 have HS:=Xa hs;have HP:=Xa hp;clear hs hp;go_enter Tryz.func97,Tryz.ntmps97;go_wp2_with fail;refine(Xc.first (XjR _ _ l p g lb eg W B hB HS.out HP.out)).mono ?_;rintro e w' ⟨rfl,x,rfl⟩;go_wp2;go_ret;exact Xc.mk (congrArg Value.bool (Zh p l)) x.below
def XvB(e:Xd):Value:=.agg #[.string e.name,.int .i64 e.depth,.int .i64 e.low,.int .i64 e.high,.int .i64 e.length,.slice e.aG.A e.aG.l.length e.aG.cap,.int .i64 e.aM,.int .i64 e.aN,.int .i64 e.aI,.int .i64 e.most,.int .i64 e.aJ,.slice e.aF.A e.aF.l.length e.aF.cap,.slice e.aE.A e.aE.l.length e.aE.cap]
theorem XfS(A:Option Addr)(cap:Nat)(l:List Xd)(p:Xd->Bool)(g:Nat)(lb:Array Value)(eg:∀args w,(callFunc g args).run Tryz.prog w=.ok (.enter g args) w)(W:World)(B:Nat)(hB:B<=W.heap.size)(hs:XA W B 13 Xd.cells ⟨A,cap,l⟩)
 (hp:Zn Tryz.prog g lb XvB p W.heap.size W l):
 Calls Tryz.prog 118 #[.slice A l.length cap,.func (.func g) #[] lb] W (Xc W (.int .i64 (idx p l))):=by
 have HS:=Xa hs;have HP:=Xa hp;have hm:cap<=9223372036854775807:=hs.2.1;have hH:l.length<=cap:=hs.1;clear hs hp;go_enter Tryz.func118,Tryz.ntmps118;go_wp2;go_loopw [8] (λv wr=>∃k:Nat,v=.int .i64 k/\k<=l.length/\Hid (∀j y,j<k->l[j]? =some y->p y=false)/\∃x:Xb W.heap.size W,wr=x.val) (λv _=>l.length-(intOf v).toNat)
 case atStart=>exact⟨0,rfl,Nat.zero_le _,λj y hj=>absurd hj (by omega),Xb.refl _ _,rfl⟩
 case round=>
  obtain⟨k,rfl,hk,hD,x,rfl⟩:=hrel;by_cases hE:k<l.length
  ·obtain⟨b,off,hA,hb,hC⟩:=HS.out.2.2 (show 0<l.length by omega);simp only at hA;subst hA;have hx:l[k]? =some l[k]:=lgE hE;have he:=λx:Xb W.heap.size W=>Xd.elem hx (show b<W.heap.size by omega) hC x;have HC:=Xa hC;have HX:=Xa hx;clear hC hx;cases hG:p l[k]
   ·go_wp2_with fail;refine(Xc.after nr (HP.out x l[k] (List.getElem_mem hE))).mono ?_;rintro e w' ⟨rfl,x,rfl⟩;go_wp2;exact⟨⟨k+1,by go_num,by omega,Qw hD.out HX.out hG,_,rfl⟩,by simp[intOf];omega⟩
   ·go_wp2_with fail;refine(Xc.after nr (HP.out x l[k] (List.getElem_mem hE))).mono ?_;rintro e w' ⟨rfl,x,rfl⟩;go_wp2;go_ret;exact Xc.mk (congrArg (Value.int IntKind.i64) (QU HX.out hG hD.out).symm) x.below
  ·go_wp2;go_ret;exact Xc.mk (congrArg (Value.int IntKind.i64) (JF λj y hj hy=>hD.out j y (by omega) hy).symm) x.below
def XpV(e:Xt):Value:=.agg #[.string e.name,.int .i64 e.fro,.int .i64 e.til,.int .i64 e.most]
theorem XjN(A:Option Addr)(cap:Nat)(l:List Xt)(p:Xt->Bool)(g:Nat)(lb:Array Value)(eg:∀args w,(callFunc g args).run Tryz.prog w=.ok (.enter g args) w)(W:World)(B:Nat)(hB:B<=W.heap.size)(hs:XA W B 4 Xt.cells ⟨A,cap,l⟩)
 (hp:Zn Tryz.prog g lb XpV p W.heap.size W l):
 Calls Tryz.prog 160 #[.slice A l.length cap,.func (.func g) #[] lb] W (Xc W (.int .i64 (idx p l))):=by
 have HS:=Xa hs;have HP:=Xa hp;have hm:cap<=9223372036854775807:=hs.2.1;have hH:l.length<=cap:=hs.1;clear hs hp;go_enter Tryz.func160,Tryz.ntmps160;go_wp2;go_loopw [8] (λv wr=>∃k:Nat,v=.int .i64 k/\k<=l.length/\Hid (∀j y,j<k->l[j]? =some y->p y=false)/\∃x:Xb W.heap.size W,wr=x.val) (λv _=>l.length-(intOf v).toNat)
 case atStart=>exact⟨0,rfl,Nat.zero_le _,λj y hj=>absurd hj (by omega),Xb.refl _ _,rfl⟩
 case round=>
  obtain⟨k,rfl,hk,hD,x,rfl⟩:=hrel;by_cases hE:k<l.length
  ·obtain⟨b,off,hA,hb,hC⟩:=HS.out.2.2 (show 0<l.length by omega);simp only at hA;subst hA;have hx:l[k]? =some l[k]:=lgE hE;have he:=λx:Xb W.heap.size W=>Xt.elem hx (show b<W.heap.size by omega) hC x;have HC:=Xa hC;have HX:=Xa hx;clear hC hx;cases hG:p l[k]
   ·go_wp2_with fail;refine(Xc.after nr (HP.out x l[k] (List.getElem_mem hE))).mono ?_;rintro e w' ⟨rfl,x,rfl⟩;go_wp2;exact⟨⟨k+1,by go_num,by omega,Qw hD.out HX.out hG,_,rfl⟩,by simp[intOf];omega⟩
   ·go_wp2_with fail;refine(Xc.after nr (HP.out x l[k] (List.getElem_mem hE))).mono ?_;rintro e w' ⟨rfl,x,rfl⟩;go_wp2;go_ret;exact Xc.mk (congrArg (Value.int IntKind.i64) (QU HX.out hG hD.out).symm) x.below
  ·go_wp2;go_ret;exact Xc.mk (congrArg (Value.int IntKind.i64) (JF λj y hj hy=>hD.out j y (by omega) hy).symm) x.below
theorem XgN(A:Option Addr)(cap:Nat)(l:List Xt)(p:Xt->Bool)(g:Nat)(lb:Array Value)(eg:∀args w,(callFunc g args).run Tryz.prog w=.ok (.enter g args) w)(W:World)(B:Nat)(hB:B<=W.heap.size)(hs:XA W B 4 Xt.cells ⟨A,cap,l⟩)
 (hp:Zn Tryz.prog g lb XpV p W.heap.size W l):
 Calls Tryz.prog 112 #[.slice A l.length cap,.func (.func g) #[] lb] W (Xc W (.bool (l.any p))):=by
 have HS:=Xa hs;have HP:=Xa hp;clear hs hp;go_enter Tryz.func112,Tryz.ntmps112;go_wp2_with fail;refine(Xc.first (XjN _ _ l p g lb eg W B hB HS.out HP.out)).mono ?_;rintro e w' ⟨rfl,x,rfl⟩;go_wp2;go_ret;exact Xc.mk (congrArg Value.bool (Zh p l)) x.below
end Go.Proofs.YtdcahhbipeaggaaGreatDoor
