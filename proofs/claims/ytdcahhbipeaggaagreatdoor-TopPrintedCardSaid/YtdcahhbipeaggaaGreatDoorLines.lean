/- Lemmas for TopPrinted: Lines. -/
import Derived.Test.YtdcahhbipeaggaaGreatDoorItems
set_option maxRecDepth 100000
set_option maxHeartbeats 16000000
namespace Go.Proofs.YtdcahhbipeaggaaGreatDoor
open Go.RowKit
theorem Xe2{l:List Int}{len:Int}{k:Nat}{y:Int}(hy:l[k]? =some y)(h:Xdv l len k y=false):YC l len=false:=by rw[YC,YP hy h,Bool.and_false]
theorem Xnn{l:List Int}{len:Int}(h:Xg (l.length:Int) 2 10=false):YC l len=false:=by rw[YC,h];rfl
theorem Xnm{l:List Int}{len:Int}{k:Nat}(h:Xg (l.length:Int) 2 10=true)(hk:l.length<=k)(hu:YA (Xdv l len) l k):YC l len=true:=by rw[YC,h,hu.all hk];rfl
theorem XpL{l:List Int}(h:∀j,0<j->j<l.length->nth l (j-1)<nth l j):∀d i,i+d<l.length->nth l i<=nth l (i+d)
 |0,_,_=>Int.le_refl _
 |d+1,i,hi=>by
  have h1:=XpL h d i (by omega);have h2:=h (i+d+1) (by omega) (by omega);rw[show i+d+1-1=i+d by omega] at h2;rw[show i+(d+1)=i+d+1 by omega];omega
theorem Xt8{l:List Int}{k:Nat}(h:∀j,0<j->j<k->nth l (j-1)<nth l j)(hk:nth l (k-1)<nth l k):∀j,0<j->j<k+1->nth l (j-1)<nth l j:=λj h0 h1=>by
 by_cases e:j=k
 ·subst e;exact hk
 ·exact h j h0 (by omega)
theorem Xpc{l:List Int}{len:Int}(hb:Xg (l.length:Int) 2 10=true)(h0:0<=nth l 0)(h1:nth l (l.length-1)<=len)(h:∀j,0<j->j<l.length->nth l (j-1)<nth l j):YC l len=true:=by
 refine Xnm hb nr λj y hj hy=> ?_;have e:nth l j=y:=XvG hy;have a:=XpL h j 0 (by omega);have b:=XpL h (l.length-1-j) j (by omega);rw[show j+(l.length-1-j)=l.length-1 by omega] at b;rw[Nat.zero_add] at a;rw[Xdv,Xz.2 ⟨by omega,by omega⟩,Bool.true_and];by_cases hz:j=0
 ·simp[hz]
 ·have:=h j (by omega) hj;simp[hz];rw[<-e];simpa using this
theorem Xes{l:List Int}{len:Int}(h:nth l 0<0)(hl:0<l.length):YC l len=false:=
 Xe2 (k:=0) (y:=nth l 0) (XaH hl) (by rw[Xdv,XdM.2 (Or.inl h)];rfl)
theorem XlQ{l:List Int}{len:Int}(h:len<nth l (l.length-1))(hl:0<l.length):YC l len=false:=
 Xe2 (k:=l.length-1) (y:=nth l (l.length-1)) (XaH (by omega)) (by rw[Xdv,XdM.2 (Or.inr h)];rfl)
theorem XlR{l:List Int}{len:Int}{k:Nat}(hk:k<l.length)(h0:0<k)(h:nth l k<=nth l (k-1)):YC l len=false:=
 Xe2 (k:=k) (y:=nth l k) (XaH hk) (by
  have e1:decide (k=0)=false:=decide_eq_false (by omega);have e2:decide (nth l (k-1)<nth l k)=false:=decide_eq_false (by omega)
  rw[Xdv,e1,e2];simp)
theorem Xrs(A:Option Addr)(cap:Nat)(l:List Int)(len:Int)(w:World)(B:Nat)(hB:B<=w.heap.size)(hs:XA w B 1 Xj ⟨A,cap,l⟩):
 Calls Tryz.prog 115 #[.slice A l.length cap,.int .i64 len] w (Xc w (.bool (YC l len))):=by
 have hm:cap<=9223372036854775807:=hs.2.1;have hW:l.length<=cap:=hs.1;have HS:=Xa hs;clear hs;cases hG:Xg (l.length:Int) 2 10
 ·have hJ:=Xa (Xnn (len:=len) hG);go_enter Tryz.func115,Tryz.ntmps115;go_wp2_with (go_at_call 114;refine(Xc.first (Yc _ _ _ _)).mono ?_;rintro e w' ⟨rfl,y,rfl⟩)
  go_ret;exact Xc.mk (congrArg Value.bool hJ.out.symm) (Xb.below _)
 ·obtain⟨hX,hK⟩:=Xz.1 hG;obtain⟨b,off,hA,hb,hC⟩:=HS.out.2.2 (show 0<l.length by omega);simp only at hA;subst hA;have hE:∀k,k<l.length->∀x:Xb w.heap.size w,x.val.cell? ⟨b,off+k,none⟩=some (.int .i64 (nth l k)):=λk hk x=>
   XaL (l:=l) (k:=k) (XaH hk) (show b<w.heap.size by omega) hC x
  have hL:=λx=>hE 0 (by omega) x;have hM:=λx=>hE (l.length-1) (by omega) x;rw[Nat.add_zero] at hL;have hH:=Xa hE;clear hE hC;have hY:(l.length:Int)-1<(l.length:Int):=by omega
  have hZ:(0:Int)<=(l.length:Int)-1:=by omega
  go_enter Tryz.func115,Tryz.ntmps115;go_wp2_with (go_at_call 114;refine(Xc.first (Yc _ _ _ _)).mono ?_;rintro e w' ⟨rfl,y,rfl⟩)
  ·go_ret;exact Xc.mk (congrArg Value.bool ((by rcases ‹_\/_› with h|h;(exact Xes h (by omega));exact XlQ h (by omega):YC l len=false)).symm) (Xb.below _)
  ·obtain⟨hN,hO⟩:=(‹_/\_›:0<=nth l 0/\nth l (l.length-1)<=len)
   go_loopw [5] (λv wr=>∃k:Nat,v=.int .i64 k/\1<=k/\k<=l.length/\Hid (∀j,0<j->j<k->nth l (j-1)<nth l j)/\∃x:Xb w.heap.size w,wr=x.val) (λv _=>l.length-(intOf v).toNat)
   case atStart=>exact⟨1,rfl,Nat.le_refl _,by omega,λj h0 h1=>absurd h1 (by omega),_,rfl⟩
   case round=>
    obtain⟨k,rfl,pA,hk,hD,x,rfl⟩:=hrel;by_cases hI:k<l.length
    ·have pB:=λx=>hH.out k hI x;have hP:=λx=>hH.out (k-1) (by omega) x;have hQ:(k:Int)<(l.length:Int):=by omega
     have hR:(0:Int)<=(k:Int):=by omega
     have hT:(k:Int)-1<(l.length:Int):=by omega
     have hU:(0:Int)<=(k:Int)-1:=by omega
     by_cases hV:nth l k<=nth l (k-1)
     ·go_wp2;refine Xk x (by kernel_rfl) (by kernel_rfl) ?_
      repeat (go_big_quiet_step (fail))
      refine wpQuiet_nil ?_;intro z;go_wp2;go_ret;exact Xc.mk (congrArg Value.bool (XlR hI (by omega) hV).symm) (Xb.below _)
     ·go_wp2;refine Xk x (by kernel_rfl) (by kernel_rfl) ?_
      repeat (go_big_quiet_step (fail))
      refine wpQuiet_nil ?_;intro z;go_wp2;exact⟨⟨k+1,by go_num,by omega,by omega,Xt8 hD.out (by omega),_,rfl⟩,by simp[intOf];omega⟩
    ·go_wp2;go_ret;exact Xc.mk (congrArg Value.bool (Xpc hG hN hO (λj h0 h1=>hD.out j h0 (by omega))).symm) (Xb.below _)
  ·go_ret;exact Xc.mk (congrArg Value.bool (Xes ‹_› (by omega)).symm) (Xb.below _)
end Go.Proofs.YtdcahhbipeaggaaGreatDoor
