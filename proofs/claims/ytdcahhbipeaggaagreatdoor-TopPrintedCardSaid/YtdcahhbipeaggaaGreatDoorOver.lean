/- Lemmas for TopPrinted: Over. -/
import Derived.RangeFuncNested
import Derived.RangeFuncBox
import Derived.RangeFuncFrom
import Derived.RangeFuncBound
import Derived.RangeFuncCalls
import Derived.RangeFuncLeaves
import Derived.Shelf.Abstract
import Derived.Shelf.RegionOpen
import Derived.WalkKit
import Derived.OwnWalkIn
import Derived.TacticsInMore
import Derived.LoopNIn
import Derived.LoopIn
import Derived.Test.YtdcahhbipeaggaaGreatDoorMoveTail
set_option maxRecDepth 100000
set_option maxHeartbeats 16000000
namespace Go.Proofs.YtdcahhbipeaggaaGreatDoor
open Go.RowKit Go.Shelf
attribute [local go_sem] Oper.semAt_some
def Xen(r:Xt)(d:Int):Bool:=decide (r.fro<=d)&&decide (d<=r.til)
def Y1(l:List Xt)(d:Int):Nat->List Nat
 |0=>[]
 |k+1=>Y1 l d k++(match l[k]? with|some r=>if Xen r d=true then [k] else []|none=>[])
theorem XoN{l:List Xt}{d:Int}{k:Nat}{r:Xt}(h:l[k]? =some r):Y1 l d (k+1)=Y1 l d k++(if Xen r d=true then [k] else []):=by
 show Y1 l d k++(match l[k]? with|some r=>if Xen r d=true then [k] else []|none=>[])=_;rw[h]
theorem Xd4(l:List Xt)(d:Int):∀k,(Y1 l d k).length<=k
 |0=>Nat.le_refl _
 |k+1=>by
  have ih:=Xd4 l d k;show(Y1 l d k++(match l[k]? with|some r=>if Xen r d=true then [k] else []|none=>[])).length<=_;rw[List.length_append];have:(match l[k]? with|some r=>if Xen r d=true then [k] else []|none=>[]:List Nat).length<=1:=by
   split
   ·split<;>simp
   ·simp
  omega
def Yt(B:Nat)(ok:Nat->Bool)(W W':World):Prop:=W.heap.size<=W'.heap.size/\∀k,k<B->ok k=false->W'.heap[k]? =W.heap[k]?
theorem Yt.refl(B:Nat)(ok:Nat->Bool)(W:World):Yt B ok W W:=⟨Nat.le_refl _,λ_ _ _=>rfl⟩
theorem Yt.trans{B:Nat}{ok:Nat->Bool}{U V W:World}(h:Yt B ok U V)(k:Yt B ok V W):Yt B ok U W:=⟨Nat.le_trans h.1 k.1,λj hj ho=>(k.2 j hj ho).trans (h.2 j hj ho)⟩
theorem Yt.cell{B:Nat}{ok:Nat->Bool}{W W':World}(h:Yt B ok W W'){p:Addr}{v:Value}(hp:p.block<B)(ho:ok p.block=false)(hc:W.cell? p=some v):W'.cell? p=some v:=(World.cell?_of_block (h.2 p.block hp ho)).trans hc
theorem Yt.alloc{B:Nat}{ok:Nat->Bool}{W W':World}(h:Yt B ok W W')(hB:B<=W'.heap.size)(o:Obj):Yt B ok W (W'.alloc o):=⟨by rw[World.size_alloc];exact Nat.le_succ_of_le h.1,λk hk ho=>by rw[heap_alloc_old W' o k (by omega)];exact h.2 k hk ho⟩
theorem Yt.below{B:Nat}{ok:Nat->Bool}{W W':World}(h:Below B W W'):Yt B ok W W':=⟨h.size,λk hk _=>h.block k hk⟩
theorem Yt.set{B b:Nat}{ok:Nat->Bool}{W W':World}(h:Yt B ok W W')(ho:ok b=true)(i:Nat)(v:Value):Yt B ok W (W'.setCell ⟨b,i,none⟩ v):=⟨by simpa[World.setCell] using h.1,λk hk hC=>by rw[RowKit.Below.heap_setCell _ _ _ _ (show k≠b from λe=>by rw[e,ho] at hC;cases hC)];exact h.2 k hk hC⟩
theorem XsR(F:Fence)(n:Nat)(hf:F.fn 214)(pA:F.round=none)(hn:1<=n)(l Bs Bd B:Nat)(ok:Nat->Bool)(A:Option Addr)(cap:Nat)(rl:List Xt)(d:Int)(J Jx:List (Fin rl.length)->World->Prop)(hJ:∀pre W o,J pre W->J pre (W.alloc o))
 (hY:∀(pre:List (Fin rl.length)) (x:Fin rl.length) (W:World),J pre W->pre.length<rl.length->YieldAt F (n-1) Tryz.prog l #[.int .i64 ((x.val:Nat):Int)] W λe W'=>
   (e=.returned (.bool true)/\J (pre++[x]) W'/\Yt B ok W W')\/(e=.returned (.bool false)/\Jx (pre++[x]) W'))
 (W:World) (hB:B<=W.heap.size) (pI:W.cell? ⟨Bs,0,none⟩=some (.slice A rl.length cap)) (pB:W.cell? ⟨Bd,0,none⟩=some (.int .i64 d)) (pC:Bd<B) (pD:ok Bd=false) (hD:XA W B 4 Xt.cells ⟨A,cap,rl⟩) (hU:0<rl.length->∀p,A=some p->ok p.block=false) (h0:J [] W):
 CallsIn F n Tryz.prog 214 #[.func (.yield l) #[] #[],.pointer (some ⟨Bs,0,none⟩),.pointer (some ⟨Bd,0,none⟩)] W λe W'=>(∃v,e=.returned v)/\
  ((∃ys:List (Fin rl.length),ys.map Fin.val=Y1 rl d rl.length/\J ys W')\/(∃pre,pre.length<=rl.length/\Jx pre W')):=by
 have hm:cap<=9223372036854775807:=hD.2.1;have pJ:rl.length<=cap:=hD.1;refine callsIn_of_wp Tryz.func214 rfl hf ?_ pA;simp only[Tryz.ntmps214,List.size_toArray,List.length_cons,List.length_nil,Nat.reduceAdd,Nat.reduceSub,Array.replicate_succ,Array.replicate_zero,List.push_toArray,List.append_toArray,List.nil_append,List.cons_append];have hL:=Xa hD;have pE:=Xa hU;clear hD hU
 gi_wp2
 gi_loopw [8] (λi wr=>∃k:Nat,k<=rl.length/\i=.int .i64 k/\(∃ys:List (Fin rl.length),ys.map Fin.val=Y1 rl d k/\J ys wr)/\Yt B ok W wr/\B<=wr.heap.size) (λi _=>rl.length-(intOf i).toNat)
 case atStart=>exact⟨0,Nat.zero_le _,rfl,⟨[],rfl,h0⟩,Yt.refl _ _ _,hB⟩
 case round=>
  obtain⟨k,hk,rfl,⟨ys,hE,hV⟩,hW,pF⟩:=hrel;by_cases hX:k<rl.length
  ·obtain⟨b,off,hA,hb,hC⟩:=hL.out.2.2 (show 0<rl.length by omega);simp only at hA hC;subst hA;obtain⟨r,hr⟩:∃r,rl[k]? =some r:=⟨_,lgE hX⟩
   have hM:=pE.out (by omega) _ rfl;have ho:∀j u,(Xt.cells r)[j]? =some u->wr.cell? ⟨b,off+k*4+j,none⟩=some u:=λj u hu=>hW.cell (p:=⟨b,off+k*4+j,none⟩) hb hM (by rw[Nat.add_assoc];exact hC k r hr j u hu);have c0:=ho 0 _ rfl;have c1:=ho 1 _ rfl;have c2:=ho 2 _ rfl;have c3:=ho 3 _ rfl;simp only[Nat.add_zero] at c0;have hs:=XoN (d:=d) hr;have hlen:ys.length<=k:=by rw[<-List.length_map (f:=Fin.val),hE];exact Xd4 rl d k
   have pK:(0:Int)<=(k:Int)/\(k:Int)<(rl.length:Int):=by omega
   obtain⟨Y,hG,hN,hO,hI⟩:=bxrf wr r;have pG:=Xt.boxed hI (by omega) (Xb.refl Y.heap.size Y);simp only[Xb.refl] at pG;have hP:J ys Y:=by rw[hG];exact hJ _ _ _ hV
   have hK:Yt B ok W Y:=by rw[hG];exact hW.alloc pF _
   have pL:=hK.cell (p:=⟨Bd,0,none⟩) pC pD pB;have hQ:B<=Y.heap.size:=by omega
   by_cases h1:r.fro<=d
   ·by_cases h2:d<=r.til
    ·have hH:Y1 rl d (k+1)=Y1 rl d k++[k]:=by rw[hs,if_pos (by simp[Xen,h1,h2])]
     obtain⟨fn,tmps,assign,body,hy,hR⟩:=hY _ ⟨k,hX⟩ Y hP (by omega);subst hG;clear hC hr hs ho hN hO hI
     gi_wp2
     refine hR.mono ?_;rintro e W3 (⟨rfl,pH,hZ⟩|⟨rfl,hT⟩)
     ·gi_wp2
      go_roundw
      case rel=>exact⟨k+1,by omega,by go_num,⟨_,by rw[hH,<-hE,List.map_append];rfl,pH⟩,hK.trans hZ,Nat.le_trans hQ hZ.1⟩
      case measure=>simp[intOf];omega
     ·gi_wp2
      refine bodyPost_ret (results_none rfl _ _ _) rfl ?_;exact⟨⟨_,rfl⟩,.inr ⟨_,by simp;omega,hT⟩⟩
    ·have hH:Y1 rl d (k+1)=Y1 rl d k:=by rw[hs,if_neg (by simp[Xen,h2]),List.append_nil]
     subst hG;clear hC hr hs ho hN hO hI hY
     gi_wp2
     refine⟨λ_ h=>(by cases h),?_⟩
     gi_wp2
     go_roundw
     case rel=>exact⟨k+1,by omega,by go_num,⟨_,by rw[hH,<-hE],hP⟩,hK,hQ⟩
     case measure=>simp[intOf];omega
   ·have hH:Y1 rl d (k+1)=Y1 rl d k:=by rw[hs,if_neg (by simp[Xen,h1]),List.append_nil]
    subst hG;clear hC hr hs ho hN hO hI hY
    gi_wp2
    refine⟨λ_ h=>(by cases h),?_⟩
    gi_wp2
    go_roundw
    case rel=>exact⟨k+1,by omega,by go_num,⟨_,by rw[hH,<-hE],hP⟩,hK,hQ⟩
    case measure=>simp[intOf];omega
  ·obtain rfl:k=rl.length:=by omega
   gi_wp2
   go_end0;exact⟨⟨_,rfl⟩,.inl ⟨_,hE,hV⟩⟩
theorem XiA(n:Nat)(hn:1<=n)(Bs Bd B:Nat)(ok:Nat->Bool)(A:Option Addr)(cap:Nat)(rl:List Xt)(d:Int)(w:World)(hB:B<=w.heap.size)(hs:Bs<w.heap.size)(hD:w.cell? ⟨Bs,0,none⟩=some (.slice A rl.length cap))(hE:w.cell? ⟨Bd,0,none⟩=some (.int .i64 d))(hG:Bd<B)(hH:ok Bd=false)(hC:XA w B 4 Xt.cells ⟨A,cap,rl⟩)(hI:0<rl.length->∀p,A=some p->ok p.block=false):
 SeqStopsK Fence.wide n Tryz.prog 214 #[.pointer (some ⟨Bs,0,none⟩),.pointer (some ⟨Bd,0,none⟩)] (λx:Fin rl.length=>#[Value.int .i64 ((x.val:Nat):Int)]) (Yt B ok) (λys=>ys.map Fin.val=Y1 rl d rl.length) (λpre=>pre.length<=rl.length) rl.length w:=
 λl J Jx W hW hJ _ hY h0=>
  XsR Fence.wide n trivial rfl hn l Bs Bd B ok A cap rl d J Jx
   (λpre W o h=>hJ pre W (W.alloc o) none h ⟨rfl,rfl,rfl,by simp,λk hk _=>heap_alloc_old W o k hk⟩ (λr e=>by cases e))
   hY W (Nat.le_trans hB hW.size) ((hW.cell hs).trans hD) ((hW.cell (show Bd<w.heap.size by omega)).trans hE) hG hH (hC.below (hW.mono hB)) hI h0
theorem XkD(A:Option Addr)(len cap:Nat)(d:Int)(w:World):
 Calls Tryz.prog 187 #[.slice A len cap,.int .i64 d] w λe w'=>e=.returned (.func (.func 214) #[] #[.pointer (some ⟨w.heap.size,0,none⟩),.pointer (some ⟨w.heap.size+1,0,none⟩)])/\w'=(w.alloc (.cells #[.slice A len cap] 263)).alloc (.cells #[.int .i64 d] 3):=by
 go_enter Tryz.func187,Tryz.ntmps187;go_wp2;go_ret;exact⟨rfl,rfl⟩
theorem Xga:∀args w,(callFunc 214 args).run Tryz.prog w=.ok (.enter 214 args) w:=XZ Tryz.func214 (by kernel_rfl) rfl
theorem Xqj{B:Nat}{ok:Nat->Bool}{w:World}(hB:B<=w.heap.size)(W:World)(l:Nat)(o o':Obj)(hl:w.heap.size<=l)(_:W.heap[l]? =some o)(_:o.isCells=false)(_:o.isWalk=false):Yt B ok W (W.putObj l o'):=
 ⟨(grownBy_putObj' W l o').size,λk hk _=>(grownBy_putObj' W l o').block k (by have:=(agS ‹W.heap[l]? =some o›).1;omega) (λe=>by cases e;omega)⟩
theorem Xk6(A:Option Addr)(cap:Nat)(rl:List Xt)(d:Int)(w:World)(hs:XA w w.heap.size 4 Xt.cells ⟨A,cap,rl⟩):
 Calls Tryz.prog 185 #[.slice A rl.length cap,.int .i64 d] w (Xc w (.int .i64 ((Y1 rl d rl.length).length:Nat))):=by
 have hm:cap<=9223372036854775807:=hs.2.1;have hH:rl.length<=cap:=hs.1;have HS:=Xa hs;have KO:=Xa (λv:World=>XkD A rl.length cap d v);clear hs;refine(callsIn_wide (n:=3)).1 ?_;refine callsIn_of_wp_marks Tryz.func185 rfl trivial ?_ rfl;simp only[Tryz.ntmps185,List.size_toArray,List.length_cons,List.length_nil,Nat.reduceAdd,Nat.reduceSub,Array.replicate_succ,Array.replicate_zero,List.push_toArray,List.append_toArray,List.nil_append,List.cons_append]
 gi_wp2_with (refine⟨trivial,?_⟩;gi_at_call 187;refine(callsIn_wide.2 (KO.out _)).mono ?_;rintro e w' ⟨rfl,rfl⟩)
 have c1:=Boxed.new w 3 (.int .i64 0);have c2:=Boxed.new (w.alloc (.cells #[.int .i64 0] 3)) 263 (.slice A rl.length cap);have c3:=Boxed.new ((w.alloc (.cells #[.int .i64 0] 3)).alloc (.cells #[.slice A rl.length cap] 263)) 3 (.int .i64 d);simp only[World.size_alloc] at c2 c3;have hE:Below w.heap.size w (((w.alloc (.cells #[.int .i64 0] 3)).alloc (.cells #[.slice A rl.length cap] 263)).alloc (.cells #[.int .i64 d] 3)):=(((Below.refl _ w).alloc nr _).alloc (by simp) _).alloc (by simp;omega) _;refine wpIn_rangeFunc_ownF rfl (by decide) (gf:=214) (lb:=#[.pointer (some ⟨w.heap.size+1,0,none⟩),.pointer (some ⟨w.heap.size+1+1,0,none⟩)]) (by simp[go_sem]) trivial Xga
  (XiA (3-1) (by decide) (w.heap.size+1) (w.heap.size+1+1) (w.heap.size+1+1+1) (λk=>k==w.heap.size) A cap rl d _ (by simp) (by first|(simp;done)|(simp;omega)) (c2.alloc _).cell c3.cell (by omega) (by first|(simp;done)|(simp;omega)) ((HS.out.below hE).more (by omega)) (λh0 p hp=>by
    obtain⟨b,off,hA,hb,-⟩:=HS.out.2.2 h0;simp only at hA;rw[hA] at hp;injection hp with hp;subst hp;simp
    omega))
  (λh k=>h.trans k) (Xqj (by simp)) brf (λ_=>rfl)
  (λpre W=>Boxed W w.heap.size 3 (.int .i64 ((pre.length:Nat):Int))/\Below w.heap.size w W)
  (λ_ _ _=>False)
  (OwnFrom.and (Own.from (boxed_own _ _ (λpre:List (Fin rl.length)=>Value.int .i64 ((pre.length:Nat):Int))) _) (ownFrom_below nr (by simp;omega)))
  (λ_ _ _ _ _ hs _ _=>hs)
  ⟨(c1.alloc _).alloc _,hE⟩
  (λx=>{tmps:=#[.slice A rl.length cap,.int .i64 d,undef,undef,.int .i64 0,.pointer (some ⟨w.heap.size,0,none⟩),.slice A rl.length cap,.int .i64 d,.func (.func 214) #[] #[.pointer (some ⟨w.heap.size+1,0,none⟩),.pointer (some ⟨w.heap.size+1+1,0,none⟩)],.int .i64 ((x.val:Nat):Int),undef,undef,undef],defers:=[]}) ?assign ?body ?done ?stop
 case assign=>
  intro l x W K hK
  gi_wp2
  simpa using hK
 case body=>
  rintro l pre x W ⟨hC,hB⟩ hI;have hc:=hC.cell;have hf:=hC.frozen;have hJ:(pre.length:Int)+1<=9223372036854775807:=by omega
  gi_wp2
  refine⟨KeepsOthers.setCell _ _ _,(Yt.refl _ _ _).set (by simp) _ _,?_,hB.setCell (p:=⟨w.heap.size,0,none⟩) nr _⟩;rw[show((((pre++[x]).length:Nat)):Int)=(pre.length:Int)+1 by simp];exact hC.set _
 case done=>
  rintro D ys W hD hG ⟨hC,hB⟩ hK;rw[show ys.length=(Y1 rl d rl.length).length by rw[<-hG,List.length_map]] at hC;have hc:=hC.cell
  gi_wp2
  refine⟨by simp,.inl ⟨_,_,rfl,run_takeDeferred hK,?_⟩⟩;exact⟨_,results_tmp rfl _ _ _,rfl,hB.trans (belowK_b (w:=w) nr W D _ _ (by simp at hD;omega) hK rfl rfl)⟩
 case stop=>
  rintro D c pre W _ _ h _;exact h.elim
end Go.Proofs.YtdcahhbipeaggaaGreatDoor
