/- Lemmas for TopPrinted: BattenBricks, BattenWays. -/
import Derived.Test.YtdcahhbipeaggaaGreatDoorBattenItems
import Derived.Test.YtdcahhbipeaggaaGreatDoorRefSet
set_option maxRecDepth 100000
set_option maxHeartbeats 64000000
namespace Go.Proofs.YtdcahhbipeaggaaGreatDoor
open Go.RowKit
def Xbm(l:List Xo):Bool:=X8 (λi x=> !(l.take i).any (λy=>Xm y.name x.name)) l
theorem Xmt{l:List Xo}(h:Xbm l=false):Yb l=false:=by
 cases ha:Yb l with
 |false=>rfl
 |true=>
  rw[Yb,bae,bae] at ha;rw[Xbm,Bool.eq_false_iff] at h;refine absurd (XJ.2 λj y hy=> ?_) h;have h1:=XJ.1 ha.1.2 j y hy;rw[QD,bae] at h1;exact h1.2
theorem Xka{l:List Xo}{k:Nat}{x:Xo}(hn:Xbm l=true)(hx:l[k]? =some x)(hf:J6 x=true):QD l k x=true:=by
 rw[QD,hf,Bool.true_and];exact XJ.1 hn k x hx
theorem XpG(A:Option Addr)(cap:Nat)(l:List Xo)(hG:∀r∈l,r.ok)(w:World)(B:Nat)(hB:B<=w.heap.size)(hs:XA w B 3 Xo.cells ⟨A,cap,l⟩):
 Calls Tryz.prog 117 #[.slice A l.length cap] w (Xc w (.bool (Yb l))):=by
 have hm:cap<=9223372036854775807:=hs.2.1;have hX:l.length<=cap:=hs.1;have hH:=Xib A cap l hG w B hB hs;have hI:=Xhn l (λx:Xo=>x.name);rw[show X8 (λi x=> !(l.take i).any (λy:Xo=>Xm y.name x.name)) l=Xbm l from rfl] at hI;rw[hI] at hH;have hL:=Xa hH;have HS:=Xa hs;have hT:=Xa hG;clear hs hG hI hH;by_cases hlen:8<(l.length:Int)
 ·have hJ:=Xa (Xj9 (l:=l) hlen);go_enter Tryz.func117,Tryz.ntmps117;go_wp2;go_ret;exact Xc.mk (congrArg Value.bool hJ.out.symm) brf
 ·cases hD:Xbm l
  ·have hJ:=Xa (Xmt hD);go_enter Tryz.func117,Tryz.ntmps117;go_wp2_with (go_at_call 167;refine(Xc.first hL.out).mono ?_;rintro e w' ⟨rfl,x,rfl⟩)
   go_ret;exact Xc.mk (congrArg Value.bool hJ.out.symm) (Xb.below _)
  ·go_enter Tryz.func117,Tryz.ntmps117;go_wp2_with (go_at_call 167;refine(Xc.first hL.out).mono ?_;rintro e w' ⟨rfl,x,rfl⟩)
   go_loopw [3,15] (λs v wr=>∃k:Nat,v=.int .i64 k/\k<=l.length/\s=.int .i64 (counts (l.take k))/\0<=counts (l.take k)/\counts (l.take k)<=60*k/\Hid (YA (QD l) l k)/\∃x:Xb w.heap.size w,wr=x.val) (λ_ v _=>l.length-(intOf v).toNat)
   case atStart=>exact⟨0,rfl,Nat.zero_le _,rfl,by simp[counts],by simp[counts],YA.zero _ _,_,rfl⟩
   case round=>
    obtain⟨k,rfl,hk,rfl,hY,hZ,hE,x,rfl⟩:=hrel;by_cases hM:k<l.length
    ·obtain⟨b,off,hA,hb,hC⟩:=HS.out.2.2 (show 0<l.length by omega);simp only at hA;subst hA;have hx:l[k]? =some l[k]:=lgE hM;have hN:=(hT.out l[k] (List.getElem_mem hM)).name;have he:=λx:Xb w.heap.size w=>Xo.elem hx (show b<w.heap.size by omega) hC x;have hO:=XdI hx;have HX:=Xa hx;have hK:=Xa hO;clear hC hx hO;obtain⟨W,hW,hU,hV,hP⟩:=boxed x.val (.cells #[.string l[k].name,.int .i64 l[k].weight,.int .i64 l[k].count] 88);have hc:=λy:Xb W.heap.size W=>Xo.boxed hP (by omega) y;have hQ:∀y:Xb W.heap.size W,Below w.heap.size w y.val:=λy=>x.below.trans ((hV.mono x.size).trans (y.below.mono (by have:=x.size;omega)))
     have HW:=Xa hW;have hR:=Xa hQ;clear hW hU hP hQ;cases hf:J6 l[k]
     ·go_wp2_with (first
       |(go_at_call 61;rw[<-HW.out];refine(Xc.first (XK _ _ hN)).mono ?_;rintro e w' ⟨rfl,y,rfl⟩)
       |(go_at_call 114;refine(Xc.after nr (Yc _ _ _ _)).mono ?_;rintro e w' ⟨rfl,y,rfl⟩))
      all_goals first
       |(go_ret;exact Xc.mk (congrArg Value.bool (XnW HX.out (by rw[QD,hf];rfl)).symm) (hR.out _))
       |exact absurd (QW.2 ⟨‹_›,‹_›,(by simp_all)⟩) (by simp[hf])
     ·obtain⟨h1,h2,h3⟩:=QW.1 hf;obtain⟨h4,h5⟩:=Xz.1 h3
      go_wp2_with (first
       |(go_at_call 61;rw[<-HW.out];refine(Xc.first (XK _ _ hN)).mono ?_;rintro e w' ⟨rfl,y,rfl⟩)
       |(go_at_call 114;refine(Xc.after nr (Yc _ _ _ _)).mono ?_;rintro e w' ⟨rfl,y,rfl⟩))
      exact⟨⟨k+1,by go_num,by omega,by rw[hK.out],by rw[hK.out];omega,by rw[hK.out];omega,hE.out.next HX.out (Xka hD HX.out hf),⟨_,hR.out _⟩,rfl⟩,by simp[intOf];omega⟩
    ·go_wp2;go_ret;exact Xc.mk (congrArg Value.bool (Xms (by omega) (by omega) hE.out)) x.below
end Go.Proofs.YtdcahhbipeaggaaGreatDoor
namespace Go.Proofs.YtdcahhbipeaggaaGreatDoor
open Go.RowKit
theorem XgT(s:Xd)(v:Bool)(hD:s.ok)(w:World)(B:Nat)(hB:B<=w.heap.size)(hG:Xd.at_ w B s)
 (g:XF s.name=false/\v=false\/XF s.name=true/\(Xg s.depth 0 1048576=false/\v=false\/Xg s.depth 0 1048576=true/\(s.low<0/\v=false\/0<=s.low/\(s.high<s.low/\v=false\/s.low<=s.high/\(1048576<s.high/\v=false\/s.high<=1048576/\(Xg s.length 1000 1048576=false/\v=false\/Xg s.length 1000 1048576=true/\(1000<=s.length/\s.length<=1048576)/\((s.length % 1000==0)=false/\v=false\/(s.length % 1000==0)=true/\(YC s.aG.l s.length=false/\v=false\/YC s.aG.l s.length=true/\(Xg s.aM 0 1048576=false/\v=false\/Xg s.aM 0 1048576=true/\(Xg s.aN 0 1048576=false/\v=false\/Xg s.aN 0 1048576=true/\(Xg s.aI 1 2=false/\v=false\/Xg s.aI 1 2=true/\(Xg s.most 1 67108864=false/\v=false\/Xg s.most 1 67108864=true/\(Xg s.aJ 0 67108864=false/\v=false\/Xg s.aJ 0 67108864=true/\(YK s.aF.l s.length=false/\v=false\/YK s.aF.l s.length=true/\(v=Yb s.aE.l))))))))))))))):
 Calls Tryz.prog 63 #[.agg #[.string s.name,.int .i64 s.depth,.int .i64 s.low,.int .i64 s.high,.int .i64 s.length,.slice s.aG.A s.aG.l.length s.aG.cap,.int .i64 s.aM,.int .i64 s.aN,.int .i64 s.aI,.int .i64 s.most,.int .i64 s.aJ,.slice s.aF.A s.aF.l.length s.aF.cap,.slice s.aE.A s.aE.l.length s.aE.cap]] w (Xc w (.bool v)):=by
 obtain⟨W,hW,hJ,hE,hH⟩:=bxst w s;have hc:=λy:Xb W.heap.size W=>Xd.boxed hH (by omega) y;have hI:=bdo hE;have hC:∀y:Xb W.heap.size W,Xd.at_ y.val W.heap.size s:=λy=>hG.to ((hE.mono hB).trans (y.below.mono (by omega))) (by omega);have hK:=hD.name
 have hL:=Xa hD.aF;have hM:=Xa hD.aE;have HW:=Xa hW;have hN:=Xa hI;have HA:=Xa hC;clear hW hJ hH hE hI hC hG hD;rcases g with ⟨g,rfl⟩|⟨h1,⟨g,rfl⟩|⟨h2,⟨g,rfl⟩|⟨h3,⟨g,rfl⟩|⟨h4,⟨g,rfl⟩|⟨h5,⟨g,rfl⟩|⟨h6,⟨hO,hP⟩,⟨g,rfl⟩|⟨h7,⟨g,rfl⟩|⟨h8,⟨g,rfl⟩|⟨h9,⟨g,rfl⟩|⟨hQ,⟨g,rfl⟩|⟨hR,⟨g,rfl⟩|⟨hT,⟨g,rfl⟩|⟨hU,⟨g,rfl⟩|⟨hV,rfl⟩⟩⟩⟩⟩⟩⟩⟩⟩⟩⟩⟩⟩⟩
 all_goals
  go_enter Tryz.func63,Tryz.ntmps63
  go_wp2_with (first
   |(go_at_call 61;rw[<-HW.out];refine(Xc.first (XK _ _ hK)).mono ?_;rintro e w' ⟨rfl,y,rfl⟩)
   |(go_at_call 114;refine(Xc.after nr (Yc _ _ _ _)).mono ?_;rintro e w' ⟨rfl,y,rfl⟩)
   |(go_at_call 115;refine(Xc.after nr (Xrs _ _ _ _ _ W.heap.size (Xb.size _) (HA.out _).aG)).mono ?_;rintro e w' ⟨rfl,y,rfl⟩)
   |(go_at_call 116;refine(Xc.after nr (XrE _ _ _ _ (by omega) (by omega) hL.out _ W.heap.size (Xb.size _) (HA.out _).aF)).mono ?_;rintro e w' ⟨rfl,y,rfl⟩)
   |(go_at_call 117;refine(Xc.after nr (XpG _ _ _ hM.out _ W.heap.size (Xb.size _) (HA.out _).aE)).mono ?_;rintro e w' ⟨rfl,y,rfl⟩))
  go_ret;exact Xc.mk rfl (hN.out _)
end Go.Proofs.YtdcahhbipeaggaaGreatDoor
