/- Lemmas for TopPrinted: Sort20, PlanPic, SecFill, SecRows, SecSize, SecSpec, TabsP. -/
import Derived.Test.YtdcahhbipeaggaaGreatDoorTied
import Derived.Test.YtdcahhbipeaggaaGreatDoorSecBegun
import Derived.Test.YtdcahhbipeaggaaGreatDoorRows
set_option maxRecDepth 100000
set_option maxHeartbeats 16000000
namespace Go.Proofs.YtdcahhbipeaggaaGreatDoor
open Go.RowKit
theorem Xtn(A cf:Value)(hA:∃p n c,A=.slice p n c)(w:World):Calls Tryz.prog 151 #[A,.int .i64 20,.int .i64 20,cf] w (λe w'=>e=.returned (.tuple #[])/\w'=w):=by
 obtain⟨p,n,c,rfl⟩:=hA;go_enter Tryz.func151,Tryz.ntmps151;go_wp2;go_loopw [8,9] (λi _ wr=>i=.int .i64 21/\wr=w) (λ_ _ _=>0)
 case atStart=>exact⟨rfl,rfl⟩
 case round=>
  obtain⟨rfl,rfl⟩:=hrel;go_wp2;go_end0;exact⟨rfl,rfl⟩
theorem Xlq(A:Value)(cf:Value)(w:World)(R:World->Prop)(hA:∃p gcap,A=.slice p 20 gcap)
 (key:Calls Tryz.prog 151 #[A,.int .i64 0,.int .i64 20,cf] w (Xbr R)):
 Calls Tryz.prog 42 #[A,cf] w (Xbr R):=by
 have hC:=Xa key;obtain⟨p,gcap,rfl⟩:=hA;have KS:=Xa (λv:World=>Xtn (.slice p 20 gcap) cf ⟨_,_,_,rfl⟩ v);clear key;have st:Calls Tryz.prog 94 #[.slice p 20 gcap,.int .i64 20,cf] w (Xbr R):=by
  go_enter Tryz.func94,Tryz.ntmps94;go_wp2;go_loopw [7,8] (λa b wr=>(a=.int .i64 0/\b=.int .i64 20/\wr=w)\/(a=.int .i64 20/\b=.int .i64 40/\Hid (R wr))) (λa _ _=>20-(intOf a).toNat)
  case atStart=>exact Or.inl ⟨rfl,rfl,rfl⟩
  case round=>
   rcases hrel with ⟨rfl,rfl,rfl⟩|⟨rfl,rfl,hR⟩
   ·go_wp2_with fail;refine hC.out.mono ?_;rintro e w' ⟨rfl,hS⟩;have HS:=Xa hS;clear hS;go_wp2_with fail;exact⟨Or.inr ⟨rfl,rfl,HS⟩,by simp[intOf]⟩
   ·go_wp2_with fail;refine(KS.out wr).mono ?_;rintro e w' ⟨rfl,rfl⟩;go_wp2;go_loopw [6,7,8,9] (λs _ _ _ wr2=>s=.int .i64 20/\wr2=w') (λ_ _ _ _ _=>0)
    case atStart=>exact⟨rfl,rfl⟩
    case round=>
     obtain⟨rfl,rfl⟩:=hrel;go_wp2;go_end0;exact⟨rfl,hR.out⟩
 have ST:=Xa st;clear st hC;go_enter Tryz.func42,Tryz.ntmps42;go_wp2_with fail;refine ST.out.mono ?_;rintro e w' ⟨rfl,hS⟩;have HS:=Xa hS;clear hS;go_wp2;go_end0;exact⟨rfl,HS.out⟩
def Xn7(f0:Nat->Int)(n g:Nat)(w w':World):Prop:=Below g w w'/\XbS w' g (ZJ f0 n)
theorem Xoq(m:Nat)(hm:m<20)(f0:Nat->Int)(fid:Nat)(cb:Array Value)(enters:∀args w,(callFunc fid args).run Tryz.prog w=.ok (.enter fid args) w)(R:World->Prop)(g gcap:Nat)(w:World)
 (hR:∀w':World,(∀p:Addr,p.block≠g->p.block<w.heap.size->w'.cell? p=w.cell? p)->R w')
 (hD:∀(w':World) (i k:Nat),R w'->i<m+1->k<m+1->Calls Tryz.prog fid (#[.int .i64 (i:Int),.int .i64 (k:Int)]++cb) w' λe w''=>e=.returned (.int .i64 (f0 i-f0 k))/\∃q,w''=w'.drewN q)
 {cur:Array Value} (hg:w.heap[g]? =some (.cells cur 3 (0,0))) (hH:Sort.Holds (XdE (n:=m+1)) w g 0 (Ze (m+1)).toArray):
 Calls Tryz.prog 42 #[.slice (some ⟨g,0,none⟩) (m+1) gcap,.func (.func fid) #[] cb] w (Xbr (Xn7 f0 (m+1) g w)):=by
 have hd:(Ze (m+1)).toArray.size=m+1:=by simp[XbM]
 have hE:ltOf (λx y:Fin (m+1)=>f0 x.val-f0 y.val)=λa b=>decide (f0 a.val<f0 b.val):=by
  funext x y
  simp only[ltOf,decide_eq_decide];omega
 have hC:∀size,CmpReads Tryz.prog fid cb (XdE (n:=m+1)) (λx y=>f0 x.val-f0 y.val) g 0 size w:=λsize n os dk hd x y=>by
  refine hD _ x.val y.val (hR _ λp hp hG=> ?_) x.isLt y.isLt;unfold sortWorld;rw[Sort.cell?_grow _ _ _ (by simpa using hG),Sort.cell?_putRow_other _ _ _ _ _ _ (Or.inl hp)];rfl
 have key:=Any.insertionSortCmpFunc_one Tryz.insL (XdE (n:=m+1)) XnP (λx y=>f0 x.val-f0 y.val) fid cb g 0 gcap 0 (m+1) (Ze (m+1)).toArray w enters
  (hC _) hH nzl (by rw[hd];exact Nat.le_refl _) (by rw[hd];omega)
 rw[hd,hE] at key;have key2:Calls Tryz.prog 151 #[.slice (some ⟨g,0,none⟩) (m+1) gcap,.int .i64 0,.int .i64 ((m+1:Nat):Int),.func (.func fid) #[] cb] w (Xbr (Xn7 f0 (m+1) g w)):=by
  refine Calls.mono key ?_;rintro e w' ⟨he,q,rfl⟩;have hs:=Xfq m (λx:Fin (m+1)=>f0 x.val) f0 (λ_=>rfl);have hsz:(Sort.insertionSort (λa b:Fin (m+1)=>decide (f0 a.val<f0 b.val)) (Ze (m+1)).toArray 0 (m+1)).size=m+1:=by
   have:=congrArg List.length hs;rw[List.length_map,Xad,Array.length_toList] at this;exact this
  have hp:=Sort.holds_putRow (XdE (n:=m+1)) w g 0 _ (Sort.insertionSort (λa b:Fin (m+1)=>decide (f0 a.val<f0 b.val)) (Ze (m+1)).toArray 0 (m+1)) hH (by rw[hsz,hd]);refine⟨he,below_drewN (Lib.below_putRow (q:=0) (Below.refl g w) (Nat.le_refl g)) q,_,(0,0),XaE (XdE (n:=m+1)) _ hg,λj x hx=> ?_⟩;rw[<-hs,List.getElem?_map] at hx;obtain⟨y,hy,rfl⟩:=Option.map_eq_some_iff.1 hx;have hj:j<m+1:=by have:=(lgS hy).1;rw[Array.length_toList,hsz] at this;exact this
  have h5:=(hp j (by rw[hsz];exact hj)).1;rw[Nat.zero_add,Lib.cell_of_heap (XaE (XdE (n:=m+1)) _ hg)] at h5;refine h5.trans ?_;have h6:(Sort.insertionSort (λa b:Fin (m+1)=>decide (f0 a.val<f0 b.val)) (Ze (m+1)).toArray 0 (m+1))[j]! =y:=by
   obtain⟨h7,h8⟩:=lgS hy;rw[getElem!_pos _ j (by rw[hsz];exact hj)];simpa using h8
  rw[h6];rfl
 by_cases hI:m+1<20
 ·exact Xcs (m+1) hI _ _ w _ ⟨_,_,rfl⟩ key2
 ·obtain rfl:m=19:=by omega
  exact Xlq _ _ w _ ⟨_,_,rfl⟩ key2
end Go.Proofs.YtdcahhbipeaggaaGreatDoor
namespace Go.Proofs.YtdcahhbipeaggaaGreatDoor
open Go.RowKit
theorem Xg8(s:Xd)(lo hi:Int):0<=Xek s lo hi/\Xek s lo hi<=3:=by
 unfold Xek;split
 ·omega
 ·split
  ·omega
  ·split<;>omega
def Jz(scale:Int)(r c:Nat)(m:Int)(s:Xd):Int:=if s.depth/scale=(r:Int) then max m (Xek s ((c:Int)*scale) (((c:Int)+1)*scale)) else m
def ZF(l:List Xd)(scale:Int)(r c:Nat):Int:=l.foldl (Jz scale r c) 0
theorem XiJ{scale:Int}{r c:Nat}{m:Int}{s:Xd}(h:0<=m/\m<=3):0<=Jz scale r c m s/\Jz scale r c m s<=3:=by
 have:=Xg8 s ((c:Int)*scale) (((c:Int)+1)*scale);unfold Jz;split
 ·omega
 ·exact h
theorem Xc5{scale:Int}{r c:Nat}:∀(l:List Xd) {m:Int},0<=m/\m<=3->0<=l.foldl (Jz scale r c) m/\l.foldl (Jz scale r c) m<=3
 |[],_,h=>h
 |_::l,_,h=>Xc5 l (XiJ h)
theorem Xhd(l:List Xd)(scale:Int)(r c:Nat):0<=ZF l scale r c/\ZF l scale r c<=3:=Xc5 l ⟨by omega,by omega⟩
theorem Xo5{l:List Xd}{k:Nat}{s:Xd}(scale:Int)(r c:Nat)(h:l[k]? =some s):ZF (l.take (k+1)) scale r c=Jz scale r c (ZF (l.take k) scale r c) s:=by
 rw[List.take_add_one,h];simp[ZF,List.foldl_append]
theorem Xhi(scale:Int):∀(l:List Xd) (m:Int),m<=l.foldl (λm s=>max m (s.depth/scale+1)) m
 |[],m=>Int.le_refl m
 |s::l,m=>Int.le_trans (by omega) (Xhi scale l (max m (s.depth/scale+1)))
theorem Xf6(scale:Int){s:Xd}:∀(l:List Xd) (m:Int),s∈l->s.depth/scale+1<=l.foldl (λm s=>max m (s.depth/scale+1)) m
 |t::l,m,h=>by
  rw[List.foldl_cons];rcases List.mem_cons.1 h with rfl|h
  ·exact Int.le_trans (by omega) (Xhi scale l _)
  ·exact Xf6 scale l _ h
theorem XoB{l:List Xd}{s:Xd}(scale:Int)(h:s∈l):s.depth/scale+1<=ZI l scale:=Xf6 scale l 0 h
def XiK(m:Int):UInt8:=if m=0 then 46 else if m=1 then 45 else if m=2 then 35 else 111
def Qr(l:List Xd)(scale:Int)(r j:Nat):List UInt8:=(List.range j).map λc=>XiK (ZF l scale r c)
def Yy(l:List Xd)(scale:Int)(C:Nat):Nat->List UInt8
 |0=>[]
 |i+1=>Yy l scale C i++Qr l scale i C++[10]
theorem XlA(l:List Xd)(scale:Int)(r j:Nat):Qr l scale r (j+1)=Qr l scale r j++[XiK (ZF l scale r j)]:=by
 simp[Qr,List.range_succ]
theorem Xdi(l:List Xd)(scale:Int)(r j:Nat):(Qr l scale r j).length=j:=by simp[Qr]
theorem Xc2(l:List Xd)(scale:Int)(C:Nat):∀i,(Yy l scale C i).length=i*(C+1)
 |0=>by simp[Yy]
 |i+1=>by
  rw[Yy,List.length_append,List.length_append,Xc2 l scale C i,Xdi,Nat.succ_mul];simp;omega
theorem Xiy(l:List Xd)(scale:Int){C i:Nat}(hC:C<=400)(hi:i<=400):(Yy l scale C i).length<=160400:=by
 rw[Xc2];exact Nat.mul_le_mul hi (show C+1<=401 by omega)
structure QG(n0 R C:Nat)(f:Nat->Nat->Int)(w:World):Prop where
 outer:w.rowIs n0 78 R (λr=> .slice (some ⟨n0+1+r,0,none⟩) C C)
 inner:∀r,r<R->w.rowIs (n0+1+r) 5 C (λc=> .int .u8 (f r c))
 size:n0+1+R<=w.heap.size
section
variable {n0 R C:Nat} {f g:Nat->Nat->Int} {w w':World}
theorem QG.below(h:QG n0 R C f w)(hb:Below (n0+1+R) w w'):QG n0 R C f w':=
 ⟨h.outer.of_block (hb.block _ (by omega)),λr hr=>(h.inner r hr).of_block (hb.block _ (by omega)),Nat.le_trans h.size hb.size⟩
theorem QG.congr(h:QG n0 R C f w)(e:∀r c,r<R->c<C->f r c=g r c):QG n0 R C g w:=
 ⟨h.outer,λr hr=>(h.inner r hr).congr λc hc=>by rw[e r c hr hc],h.size⟩
theorem QG.set(h:QG n0 R C f w){r:Nat}(c:Nat)(hr:r<R)(v:Int):QG n0 R C (λi j=>if i=r/\j=c then v else f i j) (w.setCell ⟨n0+1+r,c,none⟩ (.int .u8 v)):=by
 refine⟨h.outer.setOther (by simp only;omega) _,λi hi=> ?_,by simpa[World.setCell] using h.size⟩;by_cases e:i=r
 ·subst e;refine((h.inner i hi).set c _).congr λj _=> ?_;by_cases e:j=c<;>simp[e]
 ·refine((h.inner i hi).setOther (by simp only;omega) _).congr λj _=> ?_;simp[e]
theorem QG.outerCell(h:QG n0 R C f w){r:Nat}(hr:r<R):w.cell? ⟨n0,r,none⟩=some (.slice (some ⟨n0+1+r,0,none⟩) C C):=h.outer.cell hr
theorem QG.cell(h:QG n0 R C f w){r c:Nat}(hr:r<R)(hc:c<C):w.cell? ⟨n0+1+r,c,none⟩=some (.int .u8 (f r c)):=(h.inner r hr).cell hc
theorem QG.frozen(h:QG n0 R C f w){r:Nat}(hr:r<R)(c:Nat):w.frozen? ⟨n0+1+r,c,none⟩=false:=(h.inner r hr).frozen c
end
structure XcW(n0 R C k:Nat)(w:World):Prop where
 outer:w.rowIs n0 78 R (λr=>if r<k then .slice (some ⟨n0+1+r,0,none⟩) C C else .slice none 0 0)
 inner:∀r,r<k->w.rowIs (n0+1+r) 5 C (λ_=> .int .u8 0)
 size:w.heap.size=n0+1+k
section
variable {n0 R C k:Nat} {w:World}
theorem XcW.start(w:World)(R C:Nat):XcW w.heap.size R C 0 (w.alloc (.cells (madeCells #[.slice none 0 0] R) 78)):=
 ⟨(World.rowIs_made w _ R _).congr λr _=>by simp,λr hr=>absurd hr (by omega),by simp⟩
theorem XcW.next(h:XcW n0 R C k w):XcW n0 R C (k+1) ((w.setCell ⟨n0,k,none⟩ (.slice (some ⟨w.heap.size,0,none⟩) C C)).alloc (.cells (madeCells #[.int .u8 0] C) 5)):=by
 have hz:=h.size;refine⟨((h.outer.set k _).alloc _).congr λr _=> ?_,λr hr=> ?_,by simp[World.setCell,hz];omega⟩
 ·by_cases e:r=k
  ·subst e;simp[hz]
  ·by_cases e':r<k
   ·simp[e,e',Nat.lt_succ_of_lt e']
   ·simp[e,e',show ¬r<k+1 by omega]
 ·by_cases e:r=k
  ·subst e;have:=World.rowIs_made (w.setCell ⟨n0,r,none⟩ (.slice (some ⟨w.heap.size,0,none⟩) C C)) (.int .u8 0) C 5
   rwa [show(w.setCell ⟨n0,r,none⟩ (.slice (some ⟨w.heap.size,0,none⟩) C C)).heap.size=n0+1+r by simp[World.setCell,hz]] at this
  ·exact((h.inner r (by omega)).setOther (by simp only;omega) _).alloc _
theorem XcW.done(h:XcW n0 R C R w):QG n0 R C (λ_ _=>0) w:=
 ⟨h.outer.congr λr hr=>by simp[hr],h.inner,by have:=h.size;omega⟩
end
theorem Xtp:(Tryz.prog.info? 78).map (λi=>(i.zero,i.size,i.bytes))=some (some (.slice none 0 0),1,24):=by kernel_rfl
theorem XrL:(Tryz.prog.info? 5).map (λi=>(i.zero,i.size,i.bytes))=some (some (.int .u8 0),1,1):=by kernel_rfl
end Go.Proofs.YtdcahhbipeaggaaGreatDoor
namespace Go.Proofs.YtdcahhbipeaggaaGreatDoor
open Go.RowKit
structure ZS(pb g cap T B:Nat)(scale:Int)(R C:Nat)(rb:Nat->Nat)(f:Nat->Nat->Int)(w:World):Prop where
 box:XL pb scale (R:Int) (C:Int) (.slice (some ⟨g,0,none⟩) R cap) w
 outer:∀r,r<R->w.cell? ⟨g,r,none⟩=some (.slice (some ⟨rb r,0,none⟩) C C)
 row:∀r,r<R->∀c,c<C->w.cell? ⟨rb r,c,none⟩=some (.int .u8 (f r c))/\w.frozen? ⟨rb r,c,none⟩=false
 apart:∀r,r<R->rb r≠pb/\rb r≠g/\B<=rb r/\rb r<T
 one:∀r r',r<R->r'<R->rb r=rb r'->r=r'
 room:R<=cap
 low:pb<T/\g<T
 size:T<=w.heap.size
section
variable {pb g cap T B:Nat} {scale:Int} {R C:Nat} {rb:Nat->Nat} {f f':Nat->Nat->Int} {w w':World}
theorem ZS.below(h:ZS pb g cap T B scale R C rb f w)(hb:Below T w w'):ZS pb g cap T B scale R C rb f w':=
 ⟨h.box.below hb h.low.1,λr hr=>(hb.cell h.low.2).trans (h.outer r hr),λr hr c hc=>⟨(hb.cell (h.apart r hr).2.2.2).trans (h.row r hr c hc).1,(hb.frozen (h.apart r hr).2.2.2).trans (h.row r hr c hc).2⟩,h.apart,h.one,h.room,h.low,Nat.le_trans h.size hb.size⟩
theorem ZS.congr(h:ZS pb g cap T B scale R C rb f w)(e:∀r c,r<R->c<C->f r c=f' r c):ZS pb g cap T B scale R C rb f' w:=
 ⟨h.box,h.outer,λr hr c hc=>by rw[<-e r c hr hc];exact h.row r hr c hc,h.apart,h.one,h.room,h.low,h.size⟩
theorem ZS.set(h:ZS pb g cap T B scale R C rb f w){r:Nat}(hr:r<R){c:Nat}(hc:c<C)(v:Int):ZS pb g cap T B scale R C rb (λi j=>if i=r/\j=c then v else f i j) (w.setCell ⟨rb r,c,none⟩ (.int .u8 v)):=by
 obtain⟨a1,a2,a3,a4⟩:=h.apart r hr;refine⟨h.box.other (by simp only;omega) _,λi hi=> ?_,λi hi j hj=>⟨?_,?_⟩,h.apart,h.one,h.room,h.low,by simpa[World.setCell] using h.size⟩
 ·rw[World.cell?_setCell_other w _ _ _ (by intro e;injection e with e;exact a2 e)];exact h.outer i hi
 ·by_cases e:i=r/\j=c
  ·obtain⟨rfl,rfl⟩:=e;rw[World.cell?_setCell_same w _ _ (h.row i hi j hj).1];simp
  ·rw[World.cell?_setCell_other w _ _ _ (by
    intro e2;injection e2 with e3 e4
    exact e ⟨(h.one r i hr hi e3).symm,e4.symm⟩),if_neg e]
   exact(h.row i hi j hj).1
 ·rw[World.frozen?_setCell];exact(h.row i hi j hj).2
end
structure XeK(T:Nat)(w w':World):Prop where
 size:w'.heap.size=w.heap.size
 block:∀b,T<=b->w'.heap[b]? =w.heap[b]?
theorem XeK.refl(T:Nat)(w:World):XeK T w w:=⟨rfl,λ_ _=>rfl⟩
theorem XeK.setCell{T:Nat}{w w':World}(h:XeK T w w'){p:Addr}(hp:p.block<T)(v:Value):XeK T w (w'.setCell p v):=
 ⟨(World.size_setCell ..).trans h.size,λb hb=>(Below.heap_setCell w' p v b (by omega)).trans (h.block b hb)⟩
def JG(x:Int)(top bottom left right:Int)(r c:Nat)(v:Int):Int:=if (top<=(r:Int)/\(r:Int)<=bottom)/\(left<=(c:Int)/\(c:Int)<=right) then x else v
theorem Xf8(a:Int)(h:a<=3000001):(3000002-(a+1)).toNat<(3000002-a).toNat:=by omega
def J0(x top bottom left right:Int)(i j:Int)(r c:Nat)(v:Int):Int:=if (r:Int)<i\/((r:Int)=i/\(c:Int)<j) then JG x top bottom left right r c v else v
section
variable {pb g cap T B:Nat} {scale:Int} {R C:Nat} {rb:Nat->Nat} {f:Nat->Nat->Int} {w:World} {x top bottom left right:Int}
theorem Xpu(h:ZS pb g cap T B scale R C rb f w):ZS pb g cap T B scale R C rb (λr c=>J0 x top bottom left right (max 0 top) (max 0 left) r c (f r c)) w:=
 h.congr λr c _ _=>by
  unfold J0 JG;split
  ·split
   ·omega
   ·rfl
  ·rfl
theorem XrU{i j:Nat}(hi:i<R)(hj:j<C)(ht:max 0 top<=(i:Int))(hb:(i:Int)<=bottom)(hl:max 0 left<=(j:Int))(hr:(j:Int)<=right)(h:ZS pb g cap T B scale R C rb (λr c=>J0 x top bottom left right i j r c (f r c)) w):
 ZS pb g cap T B scale R C rb (λr c=>J0 x top bottom left right i ((j:Int)+1) r c (f r c)) (w.setCell ⟨rb i,j,none⟩ (.int .u8 x)):=
 (h.set hi hj x).congr λr c _ _=>by
   by_cases e:r=i/\c=j
   ·obtain⟨rfl,rfl⟩:=e;rw[if_pos ⟨rfl,rfl⟩,J0,if_pos (Or.inr ⟨rfl,by omega⟩),JG,if_pos ⟨⟨by omega,hb⟩,by omega,hr⟩]
   ·rw[if_neg e];unfold J0;by_cases h:(r:Int)<(i:Int)\/((r:Int)=(i:Int)/\(c:Int)<(j:Int))
    ·rw[if_pos h,if_pos (by omega)]
    ·rw[if_neg h,if_neg (by omega)]
theorem XtJ{i:Nat}{j:Int}(hj:¬j<=min right ((C:Int)-1))(h:ZS pb g cap T B scale R C rb (λr c=>J0 x top bottom left right i j r c (f r c)) w):
 ZS pb g cap T B scale R C rb (λr c=>J0 x top bottom left right ((i:Int)+1) (max 0 left) r c (f r c)) w:=
 h.congr λr c hr hc=>by
  unfold J0 JG;by_cases h1:(r:Int)<(i:Int)
  ·rw[if_pos (Or.inl h1),if_pos (Or.inl (by omega))]
  ·by_cases h2:(r:Int)=(i:Int)
   ·rw[if_pos (show(r:Int)<(i:Int)+1\/((r:Int)=(i:Int)+1/\(c:Int)<max 0 left) from Or.inl (by omega))];by_cases h3:(c:Int)<j
    ·rw[if_pos (Or.inr ⟨h2,h3⟩)]
    ·rw[if_neg (by omega),if_neg (by omega)]
   ·rw[if_neg (by omega)];by_cases h4:(r:Int)=(i:Int)+1/\(c:Int)<max 0 left
    ·rw[if_pos (Or.inr h4),if_neg (by omega)]
    ·rw[if_neg (by omega)]
theorem XrV{i:Int}(hi:¬i<=min bottom ((R:Int)-1))(h:ZS pb g cap T B scale R C rb (λr c=>J0 x top bottom left right i (max 0 left) r c (f r c)) w):
 ZS pb g cap T B scale R C rb (λr c=>JG x top bottom left right r c (f r c)) w:=
 h.congr λr c hr hc=>by
  unfold J0;by_cases h1:(r:Int)<i\/((r:Int)=i/\(c:Int)<max 0 left)
  ·rw[if_pos h1]
  ·rw[if_neg h1,JG,if_neg (by omega)]
end
theorem XtK(pb g cap T B:Nat)(scale:Int)(R C:Nat)(rb:Nat->Nat)(f:Nat->Nat->Int)(x top bottom left right:Int)(hR:R<=400)(hC:C<=400)(_hcap:cap<=9223372036854775807)
 (pD: -3000000<=top) (pE:top<=3000000) (pF: -3000000<=bottom) (pG:bottom<=3000000) (pH: -3000000<=left) (pI:left<=3000000) (_hr0: -3000000<=right) (_hr1:right<=3000000) (w:World) (hP:ZS pb g cap T B scale R C rb f w):
 Calls Tryz.prog 51 #[.pointer (some ⟨pb,0,none⟩),.int .u8 x,.int .i64 top,.int .i64 bottom,.int .i64 left,.int .i64 right] w λe w'=>e=.returned (.tuple #[])/\(ZS pb g cap T B scale R C rb (λr c=>JG x top bottom left right r c (f r c)) w'/\Below B w w'/\XeK T w w'):=by
 have HS:=Xa (Xpu (x:=x) (top:=top) (bottom:=bottom) (left:=left) (right:=right) hP);clear hP;go_enter Tryz.func51,Tryz.ntmps51;go_wp2;go_loopw [12,13] (λv _ wr=>∃i:Int,v=.int .i64 i/\max 0 top<=i/\i<=3000001/\ZS pb g cap T B scale R C rb (λr c=>J0 x top bottom left right i (max 0 left) r c (f r c)) wr/\Below B w wr/\XeK T w wr) (λv _ _=>(3000002-intOf v).toNat)
 case atStart=>exact⟨max 0 top,rfl,by omega,by omega,HS.out,Below.refl _ _,XeK.refl T w⟩
 case round=>
  obtain⟨i,rfl,hW,pJ,hG,hN,hO⟩:=hrel;have c1:=hG.box.cell1;have c2:=hG.box.cell2;have hH:=Xa hG;have hI:=Xa hN;have hJ:=Xa hO;clear hG hN hO HS;by_cases hX:i<=min bottom ((R:Int)-1)
  ·obtain⟨ir,rfl⟩:∃ir:Nat,i=(ir:Int):=⟨i.toNat,by omega⟩
   have hE:ir<R:=by omega
   have hY:(ir:Int)<=bottom:=by omega
   go_wp2;clear c1 c2;go_loopw [13] (λv wr=>∃j:Int,v=.int .i64 j/\max 0 left<=j/\j<=3000001/\ZS pb g cap T B scale R C rb (λr c=>J0 x top bottom left right ir j r c (f r c)) wr/\Below B w wr/\XeK T w wr) (λv _=>(3000002-intOf v).toNat)
   case atStart=>exact⟨max 0 left,rfl,by omega,by omega,hH.out,hI.out,hJ.out⟩
   case round=>
    clear hH hI hJ;obtain⟨j,rfl,hZ,pK,hD,hK,hL⟩:=hrel;have c2:=hD.box.cell2;have c3:=hD.box.cell3;have hQ:=hD.room;have pL:=Xa hD;have hT:=Xa hK;have hU:=Xa hL;by_cases pA:j<=min right ((C:Int)-1)
    ·obtain⟨jc,rfl⟩:∃jc:Nat,j=(jc:Int):=⟨j.toNat,by omega⟩
     have hM:jc<C:=by omega
     have pB:(jc:Int)<=right:=by omega
     have co:=hD.outer ir hE;obtain⟨old,hV⟩:∃v,wr.cell? ⟨rb ir,jc,none⟩=some v:=⟨_,(hD.row ir hE jc hM).1⟩
     have pM:=(hD.row ir hE jc hM).2;have HA:=Xa (hD.apart ir hE).2.2.1;have pC:=Xa (hD.apart ir hE).2.2.2;have HN:=Xa (XrU hE hM hW hY hZ pB hD);clear hD hK hL;go_wp2;exact⟨⟨(jc:Int)+1,rfl,by omega,by omega,HN.out,hT.out.setCell (p:=⟨rb ir,jc,none⟩) HA.out _,hU.out.setCell (p:=⟨rb ir,jc,none⟩) pC.out _⟩,Xf8 _ (by omega)⟩
    ·have HN:=Xa (XtJ pA hD);clear hD hK hL;go_wp2;exact⟨⟨(ir:Int)+1,rfl,by omega,by omega,HN.out,hT.out,hU.out⟩,Xf8 _ (by omega)⟩
  ·have HN:=Xa (XrV hX hH.out);go_wp2;go_end0;exact⟨rfl,HN.out,hI.out,hJ.out⟩
end Go.Proofs.YtdcahhbipeaggaaGreatDoor
namespace Go.Proofs.YtdcahhbipeaggaaGreatDoor
open Go.RowKit
theorem Xem{w w':World}{base:Nat}{e:TypeId}{size:Nat}{v:Value}{n:Nat}{xs:List Value}(h:w.ownsRow base e size v n xs)(hb:Below w.heap.size w w'):w'.ownsRow base e size v n xs:=by
 refine⟨h.1,?_⟩;rcases h.2 with h2|⟨g,cap,cur,hv,hg,hh,r⟩
 ·exact Or.inl h2
 ·have hC:g<w.heap.size:=(agS hh).1;exact Or.inr ⟨g,cap,cur,hv,hg,(hb.block g hC).trans hh,r⟩
theorem XjB{w w':World}{base:Nat}{e:TypeId}{size:Nat}{v:Value}{n:Nat}{xs:List Value}(h:w.ownsRow base e size v n xs)(hb:∀g,v.ownBlock=some g->w'.heap[g]? =w.heap[g]?):w'.ownsRow base e size v n xs:=by
 refine⟨h.1,?_⟩;rcases h.2 with h2|⟨g,cap,cur,hv,hg,hh,r⟩
 ·exact Or.inl h2
 ·exact Or.inr ⟨g,cap,cur,hv,hg,(hb g (by rw[hv];rfl)).trans hh,r⟩
def Xac(rb:Nat->Nat)(C k:Nat):List Value:=(List.range k).map λr=> .slice (some ⟨rb r,0,none⟩) C C
structure XdT(pb base:Nat)(scale:Int)(R C k:Nat)(rb:Nat->Nat)(v:Value)(w:World):Prop where
 box:XL pb scale (R:Int) (C:Int) v w
 own:w.ownsRow base 78 1 v k (Xac rb C k)
 far:v.ownBlock≠some pb/\∀r,r<k->v.ownBlock≠some (rb r)
 row:∀r,r<k->∀c,c<C->w.cell? ⟨rb r,c,none⟩=some (.int .u8 46)/\w.frozen? ⟨rb r,c,none⟩=false
 apart:∀r,r<k->rb r≠pb/\base<=rb r/\rb r<w.heap.size
 one:∀r r',r<k->r'<k->rb r=rb r'->r=r'
 low:base<=pb
section
variable {pb base:Nat} {scale:Int} {R C k:Nat} {rb:Nat->Nat} {v:Value} {w:World}
theorem XdT.start(hb:XL pb scale (R:Int) (C:Int) (.slice none 0 0) w)(hl:base<=pb):XdT pb base scale R C 0 rb (.slice none 0 0) w:=
 ⟨hb,⟨rfl,Or.inl ⟨rfl,rfl⟩⟩,⟨by simp[Value.ownBlock],λr hr=>absurd hr (by omega)⟩,λr hr=>absurd hr (by omega),λr hr=>absurd hr (by omega),λr r' hr=>absurd hr (by omega),hl⟩
theorem XdT.next(h:XdT pb base scale R C k rb v w){u w2 w4:World}(hC:1<=C)(hu:Below w.heap.size w u)(hT:u.heap.size=w.heap.size+1)
 (hE:Lib.Buf u w2 (w.heap.size+1) C (List.replicate C 46))
 {g cap:Nat} (hL:w4.ownsRow base 78 1 (.slice (some ⟨g,0,none⟩) (k+1) cap) (k+1) (Xac rb C k++[.slice (some ⟨w.heap.size+1,0,none⟩) C C])) (hH:(w2.alloc (.cells #[.slice (some ⟨w.heap.size+1,0,none⟩) C C] 78)).grownBy w4 v.ownBlock) (hg:v.ownBlock=some g\/g=w2.heap.size+1):
 XdT pb base scale R C (k+1) (λr=>if r=k then w.heap.size+1 else rb r) (.slice (some ⟨g,0,none⟩) (k+1) cap) (w4.setCell ⟨pb,3,none⟩ (.slice (some ⟨g,0,none⟩) (k+1) cap))/\Below base w (w4.setCell ⟨pb,3,none⟩ (.slice (some ⟨g,0,none⟩) (k+1) cap)):=by
 have hP:=h.box.lt;have hI:=h.low;have hJ:=hE.below;have hU:w.heap.size+1<=w2.heap.size:=by have:=hJ.size;omega
 have hM:w.heap.size+1<w2.heap.size:=by
  have hc:=hE.there 0 (by omega);obtain⟨x,hx⟩:=Option.isSome_iff_exists.1 hc;exact World.block_lt_of_cell? w2 _ hx
 have hN:(w2.alloc (.cells #[.slice (some ⟨w.heap.size+1,0,none⟩) C C] 78)).heap.size=w2.heap.size+1:=by simp
 have old:∀b,b<w.heap.size->v.ownBlock≠some b->w4.heap[b]? =w.heap[b]? :=λb hb hO=>by
  rw[hH.block b (by rw[hN];omega) (λe=>hO e.symm),Lib.alloc_old _ _ _ (by omega),hJ.block b (by omega)];exact hu.block b hb
 have newrow:∀c,c<C->w4.cell? ⟨w.heap.size+1,c,none⟩=some (.int .u8 46)/\w4.frozen? ⟨w.heap.size+1,c,none⟩=false:=λc hc=>by
  have hO:some (w.heap.size+1)≠v.ownBlock:=by
   rcases h.own.2 with ⟨rfl,_⟩|⟨g',cap',cur,rfl,_,hh,_⟩
   ·simp[Value.ownBlock]
   ·have hl:g'<w.heap.size:=(agS hh).1;intro e;simp only[Value.ownBlock,Option.some.injEq] at e;omega
  have hD:w4.heap[w.heap.size+1]? =w2.heap[w.heap.size+1]? :=by
   rw[hH.block _ (by rw[hN];omega) hO,Lib.alloc_old _ _ _ hM]
  exact⟨(World.cell?_of_block (a:=⟨w.heap.size+1,c,none⟩) hD).trans (by have:=hE.holds c 46 (by rw[List.getElem?_replicate,if_pos hc]);simpa using this),(World.frozen?_of_block (a:=⟨w.heap.size+1,c,none⟩) hD).trans (hE.free c hc)⟩
 have hG:g≠pb/\(∀r,r<k->g≠rb r)/\g≠w.heap.size+1:=by
  rcases hg with hg|hg
  ·refine⟨λe=>h.far.1 (by rw[hg,e]),λr hr e=>h.far.2 r hr (by rw[hg,e]),λe=> ?_⟩;rcases h.own.2 with ⟨rfl,_⟩|⟨g',cap',cur,rfl,_,hh,_⟩
   ·simp[Value.ownBlock] at hg
   ·have hl:g'<w.heap.size:=(agS hh).1;simp only[Value.ownBlock,Option.some.injEq] at hg;omega
  ·refine⟨by omega,λr hr e=> ?_,by omega⟩;have:=(h.apart r hr).2.2;omega
 have hQ:w2.heap.size+1<=w4.heap.size:=by have:=hH.size;rw[hN] at this;exact this
 have hK:XL pb scale (R:Int) (C:Int) v w4:=h.box.of_block (old pb hP h.far.1);refine⟨⟨hK.setCells _,?_,⟨?_,λr hr=> ?_⟩,λr hr c hc=> ?_,λr hr=> ?_,λr r' hr hV e=> ?_,hI⟩,?_⟩
 ·have e:Xac (λr=>if r=k then w.heap.size+1 else rb r) C (k+1)=Xac rb C k++[.slice (some ⟨w.heap.size+1,0,none⟩) C C]:=by
   unfold Xac;rw[List.range_succ,List.map_append];congr 1
   ·apply List.map_congr_left;intro r hr;have:=List.mem_range.1 hr;simp[show r≠k by omega]
   ·simp
  rw[e];exact XjB hL λb hb=>by
   simp only[Value.ownBlock,Option.some.injEq] at hb;subst hb;exact Below.heap_setCell _ _ _ _ hG.1
 ·simp only[Value.ownBlock,ne_eq,Option.some.injEq];exact hG.1
 ·simp only[Value.ownBlock,ne_eq,Option.some.injEq];by_cases e:r=k
  ·rw[if_pos e];exact hG.2.2
  ·rw[if_neg e];exact hG.2.1 r (by omega)
 ·by_cases e:r=k
  ·simp only[e,if_true];obtain⟨a,b⟩:=newrow c hc;exact⟨(World.cell?_setCell_other w4 _ _ _ (by intro e2;injection e2 with e2;omega)).trans a,(World.frozen?_setCell ..).trans b⟩
  ·simp only[e,if_false];obtain⟨a,b⟩:=h.row r (by omega) c hc;obtain⟨p1,p2,p3⟩:=h.apart r (by omega);have hD:=old (rb r) p3 (h.far.2 r (by omega));exact⟨(World.cell?_setCell_other w4 _ _ _ (by intro e2;injection e2 with e2;exact p1 e2.symm)).trans ((World.cell?_of_block (a:=⟨rb r,c,none⟩) hD).trans a),(World.frozen?_setCell ..).trans ((World.frozen?_of_block (a:=⟨rb r,c,none⟩) hD).trans b)⟩
 ·rw[World.size_setCell];by_cases e:r=k
  ·simp only[e,if_true];exact⟨by omega,by omega,by omega⟩
  ·simp only[e,if_false];obtain⟨p1,p2,p3⟩:=h.apart r (by omega);exact⟨p1,p2,by omega⟩
 ·by_cases e1:r=k<;>by_cases e2:r'=k<;>simp only[e1,e2,if_true,if_false] at e
  ·omega
  ·have:=(h.apart r' (by omega)).2.2;omega
  ·have:=(h.apart r (by omega)).2.2;omega
  ·exact h.one r r' (by omega) (by omega) e
 ·have hR:Below base w w4:=⟨hH.os.trans (hJ.os.trans hu.os),hH.tape.trans (hJ.tape.trans hu.tape),hH.output.trans (hJ.output.trans hu.output),by omega,λb hb=>by
   refine old b (by omega) λe=> ?_;rcases h.own.2 with ⟨rfl,_⟩|⟨g',cap',cur,rfl,hW,hh,_⟩
   ·simp[Value.ownBlock] at e
   ·simp only[Value.ownBlock,Option.some.injEq] at e
    omega⟩
  exact hR.setCell (p:=⟨pb,3,none⟩) hI _
theorem XdT.done(h:XdT pb base scale R C R rb v w)(hR:1<=R):∃g cap,v=.slice (some ⟨g,0,none⟩) R cap/\cap<=maxLen/\ZS pb g cap w.heap.size base scale R C rb (λ_ _=>46) w:=by
 obtain⟨g,cap,cur,rfl,hg,hh,hC,hm,hsz,hD⟩:∃g cap cur,v=.slice (some ⟨g,0,none⟩) R cap/\base<=g/\w.heap[g]? =some (.cells cur 78 (0,0))/\R<=cap/\cap<=maxLen/\cur.size=cap*1/\cur.toList.take (R*1)=Xac rb C R:=by
  rcases h.own.2 with ⟨_,h0⟩|h2
  ·omega
  ·exact h2
 have hE:g<w.heap.size:=(agS hh).1;refine⟨g,cap,rfl,hm,⟨h.box,λr hr=> ?_,h.row,λr hr=> ?_,h.one,hC,⟨h.box.lt,hE⟩,Nat.le_refl _⟩⟩
 ·rw[Lib.cell_of_heap hh];have e:(cur.toList.take (R*1))[r]? =(Xac rb C R)[r]? :=by rw[hD]
  rw[List.getElem?_take_of_lt (by omega),Array.getElem?_toList] at e;rw[e];simp[Xac,hr]
 ·obtain⟨a,b,c⟩:=h.apart r hr;have:=h.far.2 r hr;simp only[Value.ownBlock,ne_eq,Option.some.injEq] at this;exact⟨a,λe=>this e.symm,b,c⟩
end
end Go.Proofs.YtdcahhbipeaggaaGreatDoor
namespace Go.Proofs.YtdcahhbipeaggaaGreatDoor
open Go.RowKit
theorem Xml{z b:Int}(h1: -2097152<=z)(h2:z<=2097152)(hb:1<=b): -2097152<=z/b/\z/b<=2097152:=
 ⟨Int.le_ediv_of_mul_le (by omega) (by omega),Int.ediv_le_of_le_mul (by omega) (by omega)⟩
theorem Xgw{h:Xf}{scale:Int}(h0:XaZ h scale=0):Yo h scale=0/\YI h scale<=200/\YJ h scale<=200:=by
 unfold XaZ at h0;split at h0
 ·split at h0
  ·split at h0
   ·rename_i a b c;exact⟨XgF a b.1 b.2,c⟩
   ·omega
  ·omega
 ·omega
theorem Xoy{h:Xf}{scale:Int}(h0:Yo h scale≠0):XaZ h scale=Yo h scale:=by
 unfold XaZ;unfold Yo at h0 ⊢;split
 ·split
  ·rename_i a b;rw[if_pos a,if_pos b] at h0;exact absurd rfl h0
  ·rfl
 ·rfl
theorem XqV{h:Xf}{scale:Int}(h0:Yo h scale=0)(hf:¬(YI h scale<=200/\YJ h scale<=200)):XaZ h scale=4:=by
 obtain⟨a,b,c⟩:=Qk h0;rw[XaZ,if_pos a,if_pos ⟨b,c⟩,if_neg hf]
theorem XuE{h:Xf}{scale:Int}(h0:Yo h scale=0)(hf:YI h scale<=200/\YJ h scale<=200):XaZ h scale=0:=by
 obtain⟨a,b,c⟩:=Qk h0;rw[XaZ,if_pos a,if_pos ⟨b,c⟩,if_pos hf]
theorem XeU(pb:Nat)(scale R C z:Int)(cs:Value)(hC:1<=scale)(hH:scale<=1048576)(hD: -2097152<=z)(hE:z<=2097152)(hI:1<=R)(hJ:R<=2097152)(w:World)(hP:XL pb scale R C cs w):
 Calls Tryz.prog 52 #[.pointer (some ⟨pb,0,none⟩),.int .i64 z] w (Xc w (.int .i64 (R-1-z/scale))):=by
 obtain⟨e1,e2⟩:=Xml hD hE hC;have hG:=hP.lt;have c0:=λy:Xb w.heap.size w=>(hP.below y.below hG).cell0;have c1:=λy:Xb w.heap.size w=>(hP.below y.below hG).cell1;clear hP;go_enter Tryz.func52,Tryz.ntmps52;go_wp2_with fail;refine Yq w.heap.size (by kernel_rfl) (by kernel_rfl) ?_
 repeat (go_big_quiet_step ((go_at_call 53;exact Xc.after nr (XnR _ _ hD hE hC hH _))))
 refine wpQuiet_nil ?_;intro y;go_wp2;go_ret;exact Xc.mk rfl y.below
theorem Xn2(h:Xf)(hC:h.ok)(scale:Int)(h0:XaZ h scale=0)(w:World)(B:Nat)(hB:B<=w.heap.size)(hD:Xf.at_ w B h):
 Calls Tryz.prog 49 #[.agg #[.string h.name,.int .i64 h.aH,.slice h.aA.A h.aA.l.length h.aA.cap,.slice h.aB.A h.aB.l.length h.aB.cap],.int .i64 scale] w (Xhx h scale w):=by
 obtain⟨a,b⟩:=Xgw h0;have:=Xla h hC scale a w B hB hD;simpa only[if_pos b] using this
theorem Xt5(h:Xf)(hC:h.ok)(scale:Int)(h0:XaZ h scale≠0)(w:World)(B:Nat)(hB:B<=w.heap.size)(hD:Xf.at_ w B h):
 Calls Tryz.prog 49 #[.agg #[.string h.name,.int .i64 h.aH,.slice h.aA.A h.aA.l.length h.aA.cap,.slice h.aB.A h.aB.l.length h.aB.cap],.int .i64 scale] w (Xc w (.tuple #[.pointer none,.int .i64 (XaZ h scale)])):=by
 by_cases hg:Yo h scale=0
 ·by_cases hf:YI h scale<=200/\YJ h scale<=200
  ·exact absurd (XuE hg hf) h0
  ·have:=Xla h hC scale hg w B hB hD;simp only[if_neg hf] at this;rw[XqV hg hf];exact this
 ·rw[Xoy hg];exact Xsj h hC scale hg w B hB hD
theorem Xip{h:Xf}{scale:Int}(h0:XaZ h scale=0):1<=YI h scale/\YI h scale<=200/\1<=YJ h scale/\YJ h scale<=200:=by
 obtain⟨a,b,c⟩:=Xgw h0;obtain⟨hh,hC,hD⟩:=Qk a;obtain⟨t1,t2⟩:=Xf0 hh;have:=(Xhj (Xcx hh) hC).1;have:0<=h.aH/scale:=Int.ediv_nonneg (by omega) (by omega);unfold YI YJ at*;omega
end Go.Proofs.YtdcahhbipeaggaaGreatDoor
namespace Go.Proofs.YtdcahhbipeaggaaGreatDoor
open Go.RowKit
def Xul:Xd:=⟨⟨#[]⟩,0,0,0,0,⟨none,0,[]⟩,0,0,0,0,0,⟨none,0,[]⟩,⟨none,0,[]⟩⟩
def Xgv(l:List Xd)(k:Nat):Xd:=(l[k]?).getD Xul
theorem Xbw{l:List Xd}{k:Nat}{s:Xd}(h:l[k]? =some s):Xgv l k=s:=by simp[Xgv,h]
def Xb4(l:List Xd)(tr:List Int)(scale H:Int)(r c:Nat)(v:Int)(k:Nat):Int:=JG 124 0 (H-nth tr k/scale-1) ((Xgv l k).depth/scale) ((Xgv l k).depth/scale) r c v
def QT(d t scale H:Int)(r c:Nat)(v:Int)(i:Xu):Int:=JG 35 (H-t/scale) (H-(t-i.hang)/scale) ((d-i.back)/scale) ((d+i.front)/scale) r c v
def J3(l:List Xd)(tr:List Int)(scale H:Int)(r c:Nat)(v:Int)(k:Nat):Int:=(Xgv l k).aF.l.foldl (QT (Xgv l k).depth (nth tr k) scale H r c) v
def XbY(l:List Xd)(tr:List Int)(scale H:Int)(r c:Nat)(v:Int)(k:Nat):Int:=JG 43 (H-nth tr k/scale) (H-nth tr k/scale) ((Xgv l k).depth/scale) ((Xgv l k).depth/scale) r c v
def Xjg(r:Nat):Int:=if r=0 then 61 else 46
def JA(l:List Xd)(tr:List Int)(scale H:Int)(r c n:Nat):Int:=(List.range n).foldl (Xb4 l tr scale H r c) (Xjg r)
def Qz(l:List Xd)(tr:List Int)(scale H:Int)(r c n:Nat):Int:=(List.range n).foldl (J3 l tr scale H r c) (JA l tr scale H r c l.length)
def XaF(l:List Xd)(tr:List Int)(scale H:Int)(r c n:Nat):Int:=(List.range n).foldl (XbY l tr scale H r c) (Qz l tr scale H r c l.length)
def Xcy(l:List Xd)(tr:List Int)(scale H:Int)(r c:Nat):Int:=XaF l tr scale H r c l.length
theorem XfK(l:List Xd)(tr:List Int)(scale H:Int)(r c n:Nat):JA l tr scale H r c (n+1)=Xb4 l tr scale H r c (JA l tr scale H r c n) n:=by
 simp[JA,List.range_succ,List.foldl_append]
theorem XfQ(l:List Xd)(tr:List Int)(scale H:Int)(r c n:Nat):Qz l tr scale H r c (n+1)=J3 l tr scale H r c (Qz l tr scale H r c n) n:=by
 simp[Qz,List.range_succ,List.foldl_append]
theorem XfD(l:List Xd)(tr:List Int)(scale H:Int)(r c n:Nat):XaF l tr scale H r c (n+1)=XbY l tr scale H r c (XaF l tr scale H r c n) n:=by
 simp[XaF,List.range_succ,List.foldl_append]
theorem XjL{l:List Xu}{k:Nat}{i:Xu}(d t scale H:Int)(r c:Nat)(v:Int)(h:l[k]? =some i):(l.take (k+1)).foldl (QT d t scale H r c) v=QT d t scale H r c ((l.take k).foldl (QT d t scale H r c) v) i:=by
 rw[List.take_add_one,h];simp[List.foldl_append]
def XcX(v:Int):Prop:=0<=v/\v<256
theorem XdC{x top bottom left right:Int}{r c:Nat}{v:Int}(hx:XcX x)(hv:XcX v):XcX (JG x top bottom left right r c v):=by
 unfold JG;split<;>assumption
theorem XeB{d t scale H:Int}{r c:Nat}:∀(l:List Xu) {v:Int},XcX v->XcX (l.foldl (QT d t scale H r c) v)
 |[],_,h=>h
 |i::l,_,h=>by rw[List.foldl_cons];exact XeB l (XdC ⟨by omega,by omega⟩ h)
theorem XfL(l:List Xd)(tr:List Int)(scale H:Int)(r c:Nat):∀n,XcX (JA l tr scale H r c n)
 |0=>by simp[JA,Xjg,XcX];split<;>omega
 |n+1=>by rw[XfK];exact XdC ⟨by omega,by omega⟩ (XfL l tr scale H r c n)
theorem XfR(l:List Xd)(tr:List Int)(scale H:Int)(r c:Nat):∀n,XcX (Qz l tr scale H r c n)
 |0=>XfL l tr scale H r c _
 |n+1=>by rw[XfQ];exact XeB _ (XfR l tr scale H r c n)
theorem XfE(l:List Xd)(tr:List Int)(scale H:Int)(r c:Nat):∀n,XcX (XaF l tr scale H r c n)
 |0=>XfR l tr scale H r c _
 |n+1=>by rw[XfD];exact XdC ⟨by omega,by omega⟩ (XfE l tr scale H r c n)
def Xfy(l:List Xd)(tr:List Int)(scale H:Int)(r c:Nat):UInt8:=UInt8.ofNat (Xcy l tr scale H r c).toNat
theorem Xjw(l:List Xd)(tr:List Int)(scale H:Int)(r c:Nat):((Xfy l tr scale H r c).toNat:Int)=Xcy l tr scale H r c:=by
 obtain⟨a,b⟩:=XfE l tr scale H r c l.length;change 0<=Xcy l tr scale H r c at a;change Xcy l tr scale H r c<256 at b;unfold Xfy;rw[UInt8.toNat_ofNat'];omega
def Zq(l:List Xd)(tr:List Int)(scale H:Int)(r j:Nat):List UInt8:=(List.range j).map λc=>Xfy l tr scale H r c
def ZH(l:List Xd)(tr:List Int)(scale H:Int)(C:Nat):Nat->List UInt8
 |0=>[]
 |i+1=>ZH l tr scale H C i++Zq l tr scale H i C++[10]
theorem Zc(l:List Xd)(tr:List Int)(scale H:Int)(r j:Nat):(Zq l tr scale H r j).length=j:=by simp[Zq]
theorem Xdh(l:List Xd)(tr:List Int)(scale H:Int)(C:Nat):∀i,(ZH l tr scale H C i).length=i*(C+1)
 |0=>by simp[ZH]
 |i+1=>by
  rw[ZH,List.length_append,List.length_append,Xdh l tr scale H C i,Zc,Nat.succ_mul];simp;omega
theorem Xry(x:List UInt8)(r:List (List UInt8))(y sep:List UInt8):Lib.join (x::r++[y]) sep=Lib.join (x::r) sep++sep++y:=by
 rw[List.cons_append,Lib.join_cons,Lib.join_cons];simp[Lib.joinTail,List.append_assoc]
theorem XkU(l:List Xd)(tr:List Int)(scale H:Int)(C:Nat):∀n,Lib.join ((List.range (n+1)).map λr=>Zq l tr scale H r C) [10]++[10]=ZH l tr scale H C (n+1)
 |0=>by simp[Lib.join_one,ZH]
 |n+1=>by
  have e:∀f:Nat->List UInt8,(List.range (n+1+1)).map f=f 0::((List.range n).map λr=>f (r+1))++[f (n+1)]:=λf=>by
   rw[List.range_succ,List.map_append,List.range_succ_eq_map];simp[Function.comp_def]
  have e1:∀f:Nat->List UInt8,(List.range (n+1)).map f=f 0::((List.range n).map λr=>f (r+1)):=λf=>by
   rw[List.range_succ_eq_map];simp[Function.comp_def]
  have h1:=XkU l tr scale H C n;rw[e1] at h1;rw[e,Xry,h1];rfl
def Jp(l:List Xd)(tr:List Int)(k:Nat):Bool:=decide ((Xgv l k).low<=nth tr k)&&decide (nth tr k<=(Xgv l k).high)
def ZG(l:List Xd)(tr:List Int):Int:=if tr.length=l.length then(if ∀k,k<tr.length->Jp l tr k=true then 0 else 2) else 3
theorem Xoh{l:List Xd}{tr:List Int}(h:¬tr.length=l.length):ZG l tr=3:=by rw[ZG,if_neg h]
theorem XqA{l:List Xd}{tr:List Int}(h:tr.length=l.length)(ha:∀k,k<tr.length->Jp l tr k=true):ZG l tr=0:=by
 rw[ZG,if_pos h,if_pos ha]
theorem XmH{l:List Xd}{tr:List Int}(h:ZG l tr=0):tr.length=l.length/\∀k,k<tr.length->Jp l tr k=true:=by
 unfold ZG at h;split at h
 ·split at h
  ·exact⟨‹_›,‹_›⟩
  ·omega
 ·omega
end Go.Proofs.YtdcahhbipeaggaaGreatDoor
namespace Go.Proofs.YtdcahhbipeaggaaGreatDoor
open Go.RowKit
theorem Xqo: "*" ++ "errors.errorString" = "*errors.errorString" :=by decide
theorem XtM(u:TypeId)(h:Tryz.prog.typeName? 3 u=some "*errors.errorString"):u=315:=
 typeName_ptr_named (nm:= "errors.errorString") (by rw[Xqo];kernel_rfl) (by kernel_rfl) (by decide) u (by rw[Xqo];exact h)
theorem Xe0{W:World}{g:Nat}{v:Value}(hm:W.cell? ⟨g,0,none⟩=some v):g<W.heap.size:=by
 rcases Nat.lt_or_ge g W.heap.size with h|h
 ·exact h
 ·have:W.cell? ⟨g,0,none⟩=none:=by simp[World.cell?,Array.getElem?_eq_none h]
  rw[this] at hm;cases hm
theorem Xus{W:World}(h:laidMetH Tryz.prog Rows.topPrintedRow.laid W)(hs:W.ShapedOpen Tryz.prog):Xch W:=by
 rw[MakeChecks.laidMetH_plain _ _ _ (by kernel_rfl)] at h;have h2:=laidMet.tail (laidMet.tail h);have ht:=Lib.tabIs_of_head (k:=.u64) (zs:=Lib.pow10Tab) (g:=1) (t:=297) (e:=236) (n:=20) (by kernel_rfl) (by kernel_rfl) (by kernel_rfl) (by kernel_rfl) (by kernel_rfl) (by kernel_rfl) h2;have h4:=laidMet.tail h2;obtain⟨a0,s0,hC,_⟩:=laid_sentinel h4 (g:=3) (ti:=126) (te:=317) (ts:=9) (by kernel_rfl) (by kernel_rfl) Tryz.underlying126 XtM Tryz.underlying315 Tryz.underlying317 rfl rfl Tryz.underlying9 (by kernel_rfl) (by kernel_rfl);obtain⟨a1,s1,hD,_⟩:=laid_sentinel (laidMet.tail h4) (g:=2) (ti:=126) (te:=317) (ts:=9) (by kernel_rfl) (by kernel_rfl) Tryz.underlying126 XtM Tryz.underlying315 Tryz.underlying317 rfl rfl Tryz.underlying9 (by kernel_rfl) (by kernel_rfl)
 have c0:W.cell? ⟨3,0,none⟩=some (.iface 315 (.pointer (some a0))):=by have h0:=World.var?_cell (g:=3) (by kernel_rfl) hC 0;simpa using h0
 have c1:W.cell? ⟨2,0,none⟩=some (.iface 315 (.pointer (some a1))):=by have h0:=World.var?_cell (g:=2) (by kernel_rfl) hD 0;simpa using h0
 obtain⟨m,hE⟩:=Go.Proofs.cell_of_shapedOpen_int (g:=0) (zero:=#[.int .i64 0]) (t:=3) hs (of_decide_eq_true (by kernel_rfl)) (by kernel_rfl) rfl (by kernel_rfl) (by kernel_rfl) Tryz.underlying3;have hm:W.cell? ⟨0,0,none⟩=some (.int .i64 m):=hE;exact⟨⟨ht,Xe0 hm,m,hm⟩,⟨Xe0 c1,Xe0 c0⟩,⟨_,_,c1⟩,_,_,c0⟩
end Go.Proofs.YtdcahhbipeaggaaGreatDoor
