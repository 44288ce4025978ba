/- Lemmas for TopPrinted: LawTwice, LinkPlan, SecJoin. -/
import Derived.Test.YtdcahhbipeaggaaGreatDoorSrcSmall
import Derived.Test.YtdcahhbipeaggaaGreatDoorLinkOf
import Derived.Test.YtdcahhbipeaggaaGreatDoorTabsP
import Derived.Laws.IdiomStrings
namespace Go.Proofs.YtdcahhbipeaggaaGreatDoor
open Go Go.RowKit
theorem Xv6(l:List UInt8):bs (⟨l.toArray⟩:ByteArray)=l:=Xcf l
end Go.Proofs.YtdcahhbipeaggaaGreatDoor
namespace Go.Proofs.YtdcahhbipeaggaaGreatDoor
open Go
def Xam(Q:List XW):Nat:=(Q.filter λq=>q.link==1).length
theorem Xgz{Q:List XW}{k:Nat}{q:XW}(h:Q[k]? =some q):Xam (Q.take (k+1))=if q.link=1 then Xam (Q.take k)+1 else Xam (Q.take k):=by
 unfold Xam;rw[List.take_add_one,h,Option.toList_some,List.filter_append,List.length_append];by_cases e:q.link=1
 ·simp[e]
 ·simp[e]
theorem XuP(Q:List XW)(k:Nat):Xam (Q.take k)<=Xam Q:=by
 unfold Xam;have h:(Q.take k++Q.drop k).filter (λq=>q.link==1)=Q.filter λq=>q.link==1:=by rw[List.take_append_drop]
 rw[<-h,List.filter_append,List.length_append];omega
theorem XuO{Q:List XW}{k:Nat}{q:XW}(h:Q[k]? =some q)(hq:q.link=1):Xam (Q.take k)<Xam Q:=by
 have h1:=XuP Q (k+1);rw[Xgz h,if_pos hq] at h1;omega
def Xah(n:Int):Bool:=Xg n 0 2147483648
theorem XqD{n:Int}:Xah n=true↔0<=n/\n<=2147483648:=Xz
def Xay(Q:List XW)(G:List Int):Nat->List Int
 |0=>List.replicate Q.length 0
 |k+1=>match Q[k]? with
  |some q=>if q.link=1 then(Xay Q G k).set k (G.getD (Xam (Q.take k)) 0+q.aL) else Xay Q G k
  |none=>Xay Q G k
def Xl6(Q:List XW)(L T:List Int)(q:XW):Int:=T.getD (XN Q q.after).toNat 0+q.aL+(if q.link=2 then L.getD (XN Q q.after).toNat 0 else 0)
def Qb(Q:List XW)(L G:List Int):Nat->List Int
 |0=>Xay Q G Q.length
 |k+1=>match Q[k]? with
  |some q=>if q.link=1 then Qb Q L G k else(Qb Q L G k).set k (Xl6 Q L (Qb Q L G k) q)
  |none=>Qb Q L G k
theorem XeW{Q:List XW}{G:List Int}{k:Nat}{q:XW}(h:Q[k]? =some q):Xay Q G (k+1)=if q.link=1 then(Xay Q G k).set k (G.getD (Xam (Q.take k)) 0+q.aL) else Xay Q G k:=by
 show(match Q[k]? with|some q=>_|none=>_)=_;rw[h]
theorem XeV{Q:List XW}{L G:List Int}{k:Nat}{q:XW}(h:Q[k]? =some q):Qb Q L G (k+1)=if q.link=1 then Qb Q L G k else(Qb Q L G k).set k (Xl6 Q L (Qb Q L G k) q):=by
 show(match Q[k]? with|some q=>_|none=>_)=_;rw[h]
theorem XbZ(Q:List XW)(G:List Int):∀k,(Xay Q G k).length=Q.length
 |0=>List.length_replicate ..
 |k+1=>by
  cases h:Q[k]? with
  |none=>show(match Q[k]? with|some q=>_|none=>_:List Int).length=_;rw[h];exact XbZ Q G k
  |some q=>
   rw[XeW h];split
   ·rw[List.length_set];exact XbZ Q G k
   ·exact XbZ Q G k
theorem Qs(Q:List XW)(L G:List Int):∀k,(Qb Q L G k).length=Q.length
 |0=>XbZ Q G _
 |k+1=>by
  cases h:Q[k]? with
  |none=>show(match Q[k]? with|some q=>_|none=>_:List Int).length=_;rw[h];exact Qs Q L G k
  |some q=>
   rw[XeV h];split
   ·exact Qs Q L G k
   ·rw[List.length_set];exact Qs Q L G k
def InB(b:Int)(l:List Int):Prop:=∀x∈l,0<=x/\x<=b
theorem InB.get{b:Int}{l:List Int}(h:InB b l)(hb:0<=b)(i:Nat):0<=l.getD i 0/\l.getD i 0<=b:=by
 rw[List.getD_eq_getElem?_getD];cases e:l[i]? with
 |none=>exact⟨Int.le_refl _,hb⟩
 |some x=>exact h x (lmg e)
theorem InB.set{b c:Int}{l:List Int}(h:InB b l)(hC:b<=c){v:Int}(hv:0<=v/\v<=c)(i:Nat):InB c (l.set i v):=λx hx=>by
 rcases List.mem_or_eq_of_mem_set hx with hx|rfl
 ·have:=h x hx;omega
 ·exact hv
theorem InB.mono{b c:Int}{l:List Int}(h:InB b l)(hC:b<=c):InB c l:=λx hx=>by have:=h x hx;omega
theorem Xdo{Q:List XW}{G:List Int}(hd:∀q∈Q,0<=q.aL/\q.aL<=2147483648)(hG:InB 2147483648 G):∀k,InB 4294967296 (Xay Q G k)
 |0=>λx hx=>by
  have:=List.eq_of_mem_replicate hx;omega
 |k+1=>by
  cases h:Q[k]? with
  |none=>show InB _ (match Q[k]? with|some q=>_|none=>_);rw[h];exact Xdo hd hG k
  |some q=>
   rw[XeW h];split
   ·have h1:=hd q (lmg h);have h2:=hG.get (by omega) (Xam (Q.take k));exact(Xdo hd hG k).set (Int.le_refl _) (by omega) k
   ·exact Xdo hd hG k
theorem Xdn{Q:List XW}{L G:List Int}(hd:∀q∈Q,0<=q.aL/\q.aL<=2147483648)(hL:InB 2147483648 L)(hG:InB 2147483648 G):∀k:Nat,InB (4294967296*((k:Int)+1)) (Qb Q L G k)
 |0=>(Xdo hd hG Q.length).mono (by omega)
 |k+1=>by
  have ih:=Xdn hd hL hG k;cases h:Q[k]? with
  |none=>show InB _ (match Q[k]? with|some q=>_|none=>_);rw[h];exact ih.mono (by omega)
  |some q=>
   rw[XeV h];split
   ·exact ih.mono (by omega)
   ·have h1:=hd q (lmg h);have h2:=ih.get (by omega) (XN Q q.after).toNat;have h3:=hL.get (by omega) (XN Q q.after).toNat;refine ih.set (by omega) ?_ k;unfold Xl6;split<;>omega
def XI(Q:List XW)(L G:List Int):List Int×Int:=
 if G.length=Xam Q then(if (L.all Xah&&G.all Xah)=true then(Qb Q L G Q.length,0) else([],2)) else([],3)
theorem Xbc{l:List Int}(h:l.all Xah=true):InB 2147483648 l:=λx hx=>XqD.1 (List.all_eq_true.1 h x hx)
end Go.Proofs.YtdcahhbipeaggaaGreatDoor
namespace Go.Proofs.YtdcahhbipeaggaaGreatDoor
open Go.RowKit
theorem XvT(a b:ByteArray):bs (a++b)=bs a++bs b:=by
 rw[Yk,Yk,Yk,ByteArray.data_append,Array.toList_append]
theorem XnF{B:Nat}{w':World}{v:Value}{l:List UInt8}(h:Lib.FreshBytes B w' v l):∃(a:Addr) (cap:Nat),v=.slice (some a) l.length cap/\∀j (hj:j<l.length),w'.cell? (a.add j)=some (.int .u8 (l[j].toNat:Int)):=by
 obtain⟨g,cap,zs,rfl,_,hI,_,hz,hr,hb,hc,_⟩:=h;refine⟨⟨g,0,none⟩,cap,rfl,λj hj=> ?_⟩;have e:(⟨g,0,none⟩:Addr).add j=⟨g,j,none⟩:=by unfold Addr.add;split<;>simp_all
 rw[e,hc j (by omega)];have hC:j<zs.length:=by omega
 have hD:zs.getD j 0=zs[j]:=by simp[List.getD,lgE hC]
 obtain⟨r0,r1⟩:=hr zs[j] (List.getElem_mem hC);have hE:(Lib.bytesOf (zs.take l.length))[j]? =some l[j]:=by rw[hb,lgE hj]
 have hG:(Lib.bytesOf (zs.take l.length))[j]? =some (UInt8.ofNat zs[j].toNat):=by
  rw[Lib.bytesOf,List.getElem?_map,List.getElem?_take_of_lt hj,lgE hC];rfl
 have hH:l[j]=UInt8.ofNat zs[j].toNat:=Option.some.inj (hE.symm.trans hG);rw[hD,hH,UInt8.toNat_ofNat'];congr 2;omega
theorem XkS(l:List Xd)(tr:List Int)(scale H:Int)(C:Nat):∀n,Lib.lens ((List.range n).map λr=>Zq l tr scale H r C)=n*C
 |0=>by simp[Lib.lens]
 |n+1=>by
  have ih:=XkS l tr scale H C n;unfold Lib.lens at ih ⊢;rw[List.range_succ,List.map_append,List.map_append,List.sum_append,ih,Nat.succ_mul];simp[Zc]
theorem Xrz(pb g gcap T B:Nat)(scale:Int)(R C:Nat)(rb:Nat->Nat)(l:List Xd)(tr:List Int)(H:Int)(hH:1<=R)(hE:R<=200)(hI:1<=C)(hG:C<=200)(n:Nat)(u:World)
 (hP:ZS pb g gcap T B scale R C rb (λr c=>Xcy l tr scale H r c) u) (hn:u.cell? ⟨n,0,none⟩=some (.int .u8 10)):
 Calls Tryz.prog 54 #[.slice (some ⟨g,0,none⟩) R gcap,.slice (some ⟨n,0,none⟩) 1 1] u λe w'=>∃(a:Addr) (cap:Nat),e=.returned (.slice (some a) (Lib.join ((List.range R).map λr=>Zq l tr scale H r C) [10]).length cap)/\(convert 78 9 (.slice (some a) (Lib.join ((List.range R).map λr=>Zq l tr scale H r C) [10]).length cap)).run Tryz.prog w'=.ok (.string ⟨(Lib.join ((List.range R).map λr=>Zq l tr scale H r C) [10]).toArray⟩) w'/\Below u.heap.size u w':=by
 have hC:∀r,r<R->∀i x,(Zq l tr scale H r C)[i]? =some x->u.cell? ((⟨rb r,0,none⟩:Addr).add i)=some (.int .u8 (x.toNat:Int)):=λr hr i x hx=>by
  have e:(⟨rb r,0,none⟩:Addr).add i=⟨rb r,i,none⟩:=by unfold Addr.add;split<;>simp_all
  have hi:i<C:=by have:=(lgS hx).1;rwa [Zc] at this
  have e2:x=Xfy l tr scale H r i:=by
   rw[Zq,List.getElem?_map,List.getElem?_range hi] at hx;simpa using hx.symm
  rw[e,(hP.row r hr i hi).1,e2,Xjw]
 have key:Calls Tryz.prog 54 #[.slice (some ⟨g,0,none⟩) R gcap,.slice (some ⟨n,0,none⟩) 1 1] u λe w'=>∃v',e=.returned v'/\Lib.FreshBytes u.heap.size w' v' (Lib.join ((List.range R).map λr=>Zq l tr scale H r C) [10])/\Below u.heap.size u w':=by
  by_cases h1:R=1
  ·subst h1;have:=join_one g 0 gcap ⟨rb 0,0,none⟩ C (Zq l tr scale H 0 C) (.slice (some ⟨n,0,none⟩) 1 1) u (by rw[Zc];exact hP.outer 0 (by omega)) (hC 0 (by omega)) (by rw[Zc];omega) (by rw[Zc];omega);simpa[Lib.join_one] using this
  ·have hm:R*C<=200*200:=Nat.mul_le_mul hE hG;refine XrA g 0 R gcap ((List.range R).map λr=> .slice (some ⟨rb r,0,none⟩) C C) ((List.range R).map λr=>Zq l tr scale H r C) _ [10] u (by simp) (by omega) ⟨by simp,λi v hv=> ?_,λi v row hv hD=> ?_⟩ hP.room ⟨some ⟨n,0,none⟩,1,rfl,λh=>by simp at h,λa ha i x hx=> ?_⟩ (by omega) (by rw[XkS];simp;omega)
   ·have hi:i<R:=by have:=(lgS hv).1;simpa using this
    rw[List.getElem?_map,List.getElem?_range hi] at hv;have e:(⟨g,0,none⟩:Addr).add i=⟨g,i,none⟩:=by unfold Addr.add;split<;>simp_all
    rw[e,hP.outer i hi];simpa using hv
   ·have hi:i<R:=by have:=(lgS hv).1;simpa using this
    rw[List.getElem?_map,List.getElem?_range hi] at hv hD;have e1:row=Zq l tr scale H i C:=by simpa using hD.symm
    have e2:v=.slice (some ⟨rb i,0,none⟩) C C:=by simpa using hv.symm
    subst e1;exact⟨some ⟨rb i,0,none⟩,C,by rw[e2,Zc],λh=>by simp at h,λa ha j x hx=>by rw[<-Option.some.inj ha];exact hC i hi j x hx⟩
   ·rw[<-Option.some.inj ha]
    match i,hx with
    |0,hx=>
     have e2:x=10:=by simpa using hx.symm
     rw[e2];simpa[Addr.add] using hn
 refine key.mono ?_;rintro e w' ⟨v',rfl,hf,hb⟩;obtain⟨a,cap,rfl,hc⟩:=XnF hf;exact⟨a,cap,rfl,run_convert_bytes_back w' _ _ _ a cap _ Tryz.underlying78 Tryz.underlying5 Tryz.underlying9 hc,hb⟩
end Go.Proofs.YtdcahhbipeaggaaGreatDoor
