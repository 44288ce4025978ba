/- Lemmas for TopPrinted: Find, Grid, SpecSet, Items. -/
import Derived.Test.YtdcahhbipeaggaaGreatDoorIndex
import Derived.Test.YtdcahhbipeaggaaGreatDoorMoveTail
set_option maxRecDepth 100000
set_option maxHeartbeats 16000000
namespace Go.Proofs.YtdcahhbipeaggaaGreatDoor
open Go.RowKit
def Xm(a b:ByteArray):Bool:=a.toList==b.toList
theorem Qq{a b:ByteArray}:Xm a b=true↔a=b:=⟨λh=>XgQ (by simpa[Xm,bs] using h),λh=>by subst h;simp[Xm]⟩
def YY(l:List Xd)(nm:ByteArray):Int:=idx (λs=>Xm s.name nm) l
theorem Xmj:∀args w,(callFunc 119 args).run Tryz.prog w=.ok (.enter 119 args) w:=XZ Tryz.func119 (by kernel_rfl) rfl
theorem XrT(s:Xd)(nm:ByteArray)(nb:Nat)(w:World)(hn:nb<w.heap.size)(hc:w.cell? ⟨nb,0,none⟩=some (.string nm)):
 Calls Tryz.prog 119 #[.agg #[.string s.name,.int .i64 s.depth,.int .i64 s.low,.int .i64 s.high,.int .i64 s.length,.slice s.aG.A s.aG.l.length s.aG.cap,.int .i64 s.aM,.int .i64 s.aN,.int .i64 s.aI,.int .i64 s.most,.int .i64 s.aJ,.slice s.aF.A s.aF.l.length s.aF.cap,.slice s.aE.A s.aE.l.length s.aE.cap],.pointer (some ⟨nb,0,none⟩)] w (Xc w (.bool (Xm s.name nm))):=by
 have hC:∀o:Obj,(w.alloc o).cell? ⟨nb,0,none⟩=some (.string nm):=λo=>by rw[World.cell?_alloc_lt w o ⟨nb,0,none⟩ hn];exact hc
 go_enter Tryz.func119,Tryz.ntmps119;go_wp2;go_ret;exact Xc.mk rfl (brf.alloc nr _)
theorem XtI(h:Xf)(nm:ByteArray)(w:World)(B:Nat)(hB:B<=w.heap.size)(hD:Xf.at_ w B h):
 Calls Tryz.prog 64 #[.agg #[.string h.name,.int .i64 h.aH,.slice h.aA.A h.aA.l.length h.aA.cap,.slice h.aB.A h.aB.l.length h.aB.cap],.string nm] w (Xc w (.int .i64 (YY h.aA.l nm))):=by
 obtain⟨W1,hE,hG,hH,_⟩:=bxhs w h;obtain⟨W2,hI,hL,hJ,hK⟩:=boxed W1 (.cells #[.string nm] 9);have hb:Below w.heap.size w W2:=hH.trans (hJ.mono (by omega));have hC:∀x:Xb W2.heap.size W2,x.val.cell? ⟨W1.heap.size,0,none⟩=some (.string nm):=λx=>x.cells hK (by omega) 0 _ rfl;have hM:w.heap.size+1<W2.heap.size:=by omega
 rw[hG] at hC;have HH:=Xa (hD.to (hb.mono hB) (Nat.le_trans hB (show w.heap.size<=W2.heap.size by omega)));have HW:=Xa (show W2=(w.alloc (.cells #[.string h.name,.int .i64 h.aH,.slice h.aA.A h.aA.l.length h.aA.cap,.slice h.aB.A h.aB.l.length h.aB.cap] 25)).alloc (.cells #[.string nm] 9) by rw[hI,hE]);clear hE hI hG hL hK hD hH hJ;go_enter Tryz.func64,Tryz.ntmps64;go_wp2_with fail;rw[<-HW.out];refine(Xc.first (XfS _ _ _ (λs=>Xm s.name nm) _ _ Xmj W2 W2.heap.size nr HH.out.aA (λx e _=>by rw[XcA];exact XrT e nm _ x.val (Nat.lt_of_lt_of_le hM x.size) (hC x)))).mono ?_
 rintro e w' ⟨rfl,x,rfl⟩;go_wp2;go_ret;exact Xc.mk rfl (hb.trans (x.below.mono (by omega)))
end Go.Proofs.YtdcahhbipeaggaaGreatDoor
namespace Go.Proofs.YtdcahhbipeaggaaGreatDoor
open Go.RowKit
theorem XA.take{α:Type}{w:World}{B size:Nat}{cells:α->List Value}{A:Option Addr}{cap:Nat}{l:List α}(h:XA w B size cells ⟨A,cap,l⟩)(k:Nat):XA w B size cells ⟨A,cap,l.take k⟩:=by
 have h1:l.length<=cap:=h.1;refine⟨by simp only[List.length_take];omega,h.2.1,λh0=> ?_⟩;simp only[List.length_take] at h0;obtain⟨b',off',e,hC,hD⟩:=h.2.2 (show 0<l.length by omega);refine⟨b',off',e,hC,λi r hr j u hu=>hD i r ?_ j u hu⟩;simp only[List.getElem?_take] at hr ⊢;split at hr<;>simp_all
def Xg(n lo hi:Int):Bool:=decide (lo<=n)&&decide (n<=hi)
theorem Yc(a lo hi:Int)(w:World):Calls Tryz.prog 114 #[.int .i64 a,.int .i64 lo,.int .i64 hi] w (Xc w (.bool (Xg a lo hi))):=by
 go_enter Tryz.func114,Tryz.ntmps114;go_wp2
 all_goals
  go_ret;exact Xc.mk (congrArg Value.bool (by rw[Bool.eq_iff_iff];simp[Xg];try omega)) brf
theorem XeM(a:Int)(w:World):Calls Tryz.prog 111 #[.int .i64 a] w (Xc w (.bool (Xg a 0 1048576))):=by
 go_enter Tryz.func111,Tryz.ntmps111;go_wp2
 all_goals
  go_ret;exact Xc.mk (congrArg Value.bool (by rw[Bool.eq_iff_iff];simp[Xg];try omega)) brf
theorem Xf3(s:ByteArray)(w:World)(hs:s.size<=maxLen):Calls Tryz.prog 110 #[.string s] w (Xc w (.bool (XF s))):=by
 go_enter Tryz.func110,Tryz.ntmps110;go_wp2_with (go_at_call 61;refine(Xc.first (XK _ _ hs)).mono ?_;rintro e w' ⟨rfl,x,rfl⟩)
 go_ret;exact Xc.mk rfl x.below
def Xal(b:Xt):Bool:=XF b.name&&decide (0<=b.fro)&&decide (b.fro<=b.til)&&decide (b.til<=1048576)&&decide (0<=b.most)&&decide (b.most<=67108864)
def XbJ(l:List Xt)(i:Nat)(b:Xt):Bool:=Xal b&& !(l.take i).any (λx=>Xm x.name b.name)
def Y6(l:List Xt):Bool:=decide (l.length<=20)&&X8 (XbJ l) l
theorem XmX{l:List Xt}(h:(l.length:Int)<=20)(hu:YA (XbJ l) l l.length):Y6 l=true:=by
 rw[Y6,decide_eq_true (by omega),hu.all nr];rfl
theorem XlB{l:List Xt}(h:20<(l.length:Int)):Y6 l=false:=by rw[Y6,decide_eq_false (by omega)];rfl
theorem Xir{l:List Xt}{k:Nat}{y:Xt}(hy:l[k]? =some y)(h:XbJ l k y=false):Y6 l=false:=by rw[Y6,YP hy h,Bool.and_false]
theorem Xcz{b:Xt}:Xal b=true↔XF b.name=true/\Xg b.fro 0 1048576=true/\Xg b.til 0 1048576=true/\b.fro<=b.til/\0<=b.most/\b.most<=67108864:=by
 simp only[Xal,Xg,bae,decide_eq_true_eq];constructor
 ·rintro⟨⟨⟨⟨⟨h0,h1⟩,h2⟩,h3⟩,h4⟩,h5⟩;exact⟨h0,⟨h1,by omega⟩,⟨by omega,h3⟩,h2,h4,h5⟩
 ·rintro⟨h0,⟨h1,_⟩,⟨_,h3⟩,h2,h4,h5⟩;exact⟨⟨⟨⟨⟨h0,h1⟩,h2⟩,h3⟩,h4⟩,h5⟩
theorem Xgb:∀args w,(callFunc 113 args).run Tryz.prog w=.ok (.enter 113 args) w:=XZ Tryz.func113 (by kernel_rfl) rfl
theorem Xi1(s:Xt)(nm:ByteArray)(nb:Nat)(w:World)(hn:nb<w.heap.size)(hc:w.cell? ⟨nb,0,none⟩=some (.string nm)):
 Calls Tryz.prog 113 #[.agg #[.string s.name,.int .i64 s.fro,.int .i64 s.til,.int .i64 s.most],.pointer (some ⟨nb,0,none⟩)] w (Xc w (.bool (Xm s.name nm))):=by
 have hC:∀o:Obj,(w.alloc o).cell? ⟨nb,0,none⟩=some (.string nm):=λo=>by rw[World.cell?_alloc_lt w o ⟨nb,0,none⟩ hn];exact hc
 go_enter Tryz.func113,Tryz.ntmps113;go_wp2;go_ret;exact Xc.mk rfl (brf.alloc nr _)
theorem Xez(A:Option Addr)(cap:Nat)(l:List Xt)(hK:∀r∈l,r.ok)(w:World)(B:Nat)(hB:B<=w.heap.size)(hs:XA w B 4 Xt.cells ⟨A,cap,l⟩):
 Calls Tryz.prog 62 #[.slice A l.length cap] w (Xc w (.bool (Y6 l))):=by
 have hm:cap<=9223372036854775807:=hs.2.1;have hV:l.length<=cap:=hs.1;have HS:=Xa hs;have hQ:=Xa hK;clear hs hK;go_enter Tryz.func62,Tryz.ntmps62;by_cases hlen:20<(l.length:Int)
 ·go_wp2;go_ret;exact Xc.mk (congrArg Value.bool (XlB hlen).symm) brf
 ·go_wp2;go_loopw [10] (λv wr=>∃k:Nat,v=.int .i64 k/\k<=l.length/\Hid (YA (XbJ l) l k)/\∃x:Xb w.heap.size w,wr=x.val) (λv _=>l.length-(intOf v).toNat)
  case atStart=>exact⟨0,rfl,Nat.zero_le _,YA.zero _ _,Xb.refl _ _,rfl⟩
  case round=>
   obtain⟨k,rfl,hk,hD,x,rfl⟩:=hrel;by_cases hL:k<l.length
   ·obtain⟨b,off,hA,hb,hC⟩:=HS.out.2.2 (show 0<l.length by omega);simp only at hA;subst hA;have hx:l[k]? =some l[k]:=lgE hL;have hM:=(hQ.out l[k] (List.getElem_mem hL)).name;have he:=λx:Xb w.heap.size w=>Xt.elem hx (show b<w.heap.size by omega) hC x;have HX:=Xa hx;clear hC hx;obtain⟨W,hW,hN,hR,hO⟩:=boxed x.val (.cells #[.string l[k].name,.int .i64 l[k].fro,.int .i64 l[k].til,.int .i64 l[k].most] 67);have hc:=λy:Xb W.heap.size W=>Xt.boxed hO (by omega) y;have hH:∀y:Xb W.heap.size W,Below w.heap.size w y.val:=λy=>x.below.trans ((hR.mono x.size).trans (y.below.mono (by have:=x.size;omega)))
    have hE:∀y:Xb W.heap.size W,∀z:Xb y.val.heap.size y.val,z.val.cell? ⟨x.val.heap.size,0,none⟩=some (.string l[k].name):=λy z=>(z.below.cell (show x.val.heap.size<y.val.heap.size by have:=y.size;omega)).trans (hc y).1;have hG:∀y:Xb W.heap.size W,x.val.heap.size<y.val.heap.size:=λy=>by have:=y.size;omega
    have hP:∀y:Xb W.heap.size W,XA y.val y.val.heap.size 4 Xt.cells ⟨some ⟨b,off,none⟩,cap,l.take k⟩:=λy=>(HS.out.to ((hH y).mono hB) (Nat.le_trans hB (hH y).size)).take k;have hX:=Xa hN;have HW:=Xa hW;have hI:=Xa hE;have hT:=Xa hG;have hU:=Xa hP;have hJ:=Xa hH;clear hW hN hO hE hG hP hH;cases hf:Xal l[k]
    ·go_wp2_with (first
      |(go_at_call 110;rw[<-HW.out];refine(Xc.first (Xf3 _ _ hM)).mono ?_;rintro e w' ⟨rfl,y,rfl⟩)
      |(go_at_call 111;refine(Xc.after nr (XeM _ _)).mono ?_;rintro e w' ⟨rfl,y,rfl⟩))
     all_goals first
      |(go_ret;exact Xc.mk (congrArg Value.bool (Xir HX.out (by simp[XbJ,hf])).symm) (hJ.out _))
      |exact absurd (Xcz.2 ⟨‹_›,‹_›,‹_›,by omega,by omega,by omega⟩) (by simp[hf])
    ·obtain⟨h1,h2,h3,h4,h5,h6⟩:=Xcz.1 hf;cases hd:(l.take k).any (λr=>Xm r.name l[k].name)
     all_goals
      go_wp2_with (first
       |(go_at_call 110;rw[<-HW.out];refine(Xc.first (Xf3 _ _ hM)).mono ?_;rintro e w' ⟨rfl,y,rfl⟩)
       |(go_at_call 111;refine(Xc.after nr (XeM _ _)).mono ?_;rintro e w' ⟨rfl,y,rfl⟩)
       |(go_at_call 112
         have c:=XgN (some ⟨b,off,none⟩) cap (l.take k) (λr=>Xm r.name l[k].name) 113 #[.pointer (some ⟨x.val.heap.size,0,none⟩)] Xgb y.val y.val.heap.size nr (hU.out y)
          (λz e _=>by rw[XcA];exact Xi1 e _ _ z.val (Nat.lt_of_lt_of_le (hT.out y) z.size) (hI.out y z))
         rw[show(l.take k).length=k by rw[List.length_take];omega] at c;refine(Xc.after nr c).mono ?_;clear c
         rintro e w' ⟨rfl,y,rfl⟩))
     ·exact⟨⟨k+1,by go_num,by omega,hD.out.next HX.out (by simp[XbJ,hf,hd]),⟨_,hJ.out _⟩,rfl⟩,by simp[intOf];omega⟩
     ·go_ret;exact Xc.mk (congrArg Value.bool (Xir HX.out (by simp[XbJ,hf,hd])).symm) (hJ.out _)
   ·go_wp2;go_ret;exact Xc.mk (congrArg Value.bool (XmX (by omega) (by have:k=l.length:=(by omega);subst this;exact hD.out)).symm) x.below
end Go.Proofs.YtdcahhbipeaggaaGreatDoor
namespace Go.Proofs.YtdcahhbipeaggaaGreatDoor
open Go.RowKit
theorem Xz{n lo hi:Int}:Xg n lo hi=true↔lo<=n/\n<=hi:=by simp[Xg]
theorem XdM{n lo hi:Int}:Xg n lo hi=false↔n<lo\/hi<n:=by
 rw[<-Bool.not_eq_true,Xz];omega
def XbR(a b:Xu):Bool:=decide (a.place+a.width<=b.place)||decide (b.place+b.width<=a.place)
def Xb7(x:Xu):Bool:=XF x.name&&Xg x.weight 0 1048576&&Xg x.hang 0 1048576&&Xg x.front 0 1048576&&Xg x.back 0 1048576
def Qi(x:Xu)(len:Int):Bool:=decide (0<=x.place)&&Xg x.width 1 1048576&&decide (x.place<=len-x.width)
def Qj(x:Xu)(len:Int):Bool:=Xb7 x&&Qi x len
def Xb6(x y:Xu):Bool:=Xm y.name x.name|| !XbR y x
def JE(l:List Xu)(len:Int)(i:Nat)(x:Xu):Bool:=Qj x len&& !(l.take i).any (Xb6 x)
def YK(l:List Xu)(len:Int):Bool:=decide (l.length<=40)&&X8 (JE l len) l
theorem Xnu{l:List Xu}{len:Int}(h:(l.length:Int)<=40)(hu:YA (JE l len) l l.length):YK l len=true:=by
 rw[YK,decide_eq_true (by omega),hu.all nr];rfl
theorem XlY{l:List Xu}{len:Int}(h:40<(l.length:Int)):YK l len=false:=by rw[YK,decide_eq_false (by omega)];rfl
theorem Xe3{l:List Xu}{len:Int}{k:Nat}{y:Xu}(hy:l[k]? =some y)(h:JE l len k y=false):YK l len=false:=by rw[YK,YP hy h,Bool.and_false]
theorem XaK{x:Xu}{len:Int}:Qj x len=true↔XF x.name=true/\Xg x.width 1 1048576=true/\Xg x.place 0 (len-x.width)=true/\Xg x.weight 0 1048576=true/\Xg x.hang 0 1048576=true/\Xg x.front 0 1048576=true/\Xg x.back 0 1048576=true:=by
 simp only[Qj,Xb7,Qi,Xg,bae,decide_eq_true_eq];constructor
 ·rintro⟨⟨⟨⟨⟨h0,h1⟩,h2⟩,h3⟩,h4⟩,⟨h5,h6⟩,h7⟩;exact⟨h0,h6,⟨h5,h7⟩,h1,h2,h3,h4⟩
 ·rintro⟨h0,h6,⟨h5,h7⟩,h1,h2,h3,h4⟩;exact⟨⟨⟨⟨⟨h0,h1⟩,h2⟩,h3⟩,h4⟩,⟨h5,h6⟩,h7⟩
theorem Xdx{x:Xu}{len:Int}(h:Qj x len=true)(hl:len<=1048576):0<=x.place/\x.place<=1048576/\1<=x.width/\x.width<=1048576:=by
 obtain⟨_,h1,h2,_⟩:=XaK.1 h;rw[Xz] at h1 h2;omega
def J6(b:Xo):Bool:=XF b.name&&Xg b.weight 1 1048576&&Xg b.count 0 60
def QD(l:List Xo)(i:Nat)(b:Xo):Bool:=J6 b&& !(l.take i).any (λx=>Xm x.name b.name)
def counts(l:List Xo):Int:=(l.map (·.count)).sum
def Yb(l:List Xo):Bool:=decide (l.length<=8)&&X8 (QD l) l&&decide (counts l<=60)
def nth(l:List Int)(k:Nat):Int:=l.getD k 0
theorem XaH{l:List Int}{k:Nat}(h:k<l.length):l[k]? =some (nth l k):=by rw[nth,List.getD,lgE h];rfl
theorem XvG{l:List Int}{k:Nat}{y:Int}(h:l[k]? =some y):nth l k=y:=by rw[nth,List.getD,h];rfl
def Xdv(l:List Int)(len:Int)(i:Nat)(n:Int):Bool:=Xg n 0 len&&(decide (i=0)||decide (nth l (i-1)<n))
def YC(l:List Int)(len:Int):Bool:=Xg (l.length:Int) 2 10&&X8 (Xdv l len) l
def Ju(s:Xd):Bool:=XF s.name&&Xg s.depth 0 1048576&&Xg s.low 0 s.high&&Xg s.high 0 1048576&&Xg s.length 1000 1048576&&decide (s.length % 1000=0)
def XbX(s:Xd):Bool:=Xg s.aM 0 1048576&&Xg s.aN 0 1048576&&Xg s.aI 1 2&&Xg s.most 1 67108864&&Xg s.aJ 0 67108864
def X0(s:Xd):Bool:=Ju s&&YC s.aG.l s.length&&XbX s&&YK s.aF.l s.length&&Yb s.aE.l
end Go.Proofs.YtdcahhbipeaggaaGreatDoor
namespace Go.Proofs.YtdcahhbipeaggaaGreatDoor
open Go.RowKit
structure Xfe(x:Xu):Prop where
 p0:0<=x.place
 p1:x.place<=1048576
 w0:1<=x.width
 w1:x.width<=1048576
theorem Xsm(x y:Xu)(hx:Xfe x)(hy:Xfe y)(w:World):Calls Tryz.prog 166 #[.agg #[.string x.name,.int .i64 x.place,.int .i64 x.width,.int .i64 x.weight,.int .i64 x.hang,.int .i64 x.front,.int .i64 x.back],.agg #[.string y.name,.int .i64 y.place,.int .i64 y.width,.int .i64 y.weight,.int .i64 y.hang,.int .i64 y.front,.int .i64 y.back]] w (Xc w (.bool (XbR x y))):=by
 obtain⟨x0,x1,x2,x3⟩:=hx;obtain⟨y0,y1,y2,y3⟩:=hy;go_enter Tryz.func166,Tryz.ntmps166;go_wp2
 all_goals
  go_ret;exact Xc.mk (congrArg Value.bool (by rw[Bool.eq_iff_iff];simp[XbR];try omega)) ((brf.alloc nr _).alloc (by simp) _)
theorem XgU(x:Xu)(hn:x.name.size<=maxLen)(w:World):Calls Tryz.prog 163 #[.agg #[.string x.name,.int .i64 x.place,.int .i64 x.width,.int .i64 x.weight,.int .i64 x.hang,.int .i64 x.front,.int .i64 x.back]] w (Xc w (.bool (Xb7 x))):=by
 obtain⟨W,hW,hG,hC,hD⟩:=bxit w x;have hc:=λy:Xb W.heap.size W=>Xu.boxed hD (by omega) y;have hE:=bdo hC;have HW:=Xa hW;have hH:=Xa hE;clear hW hG hC hD hE;go_enter Tryz.func163,Tryz.ntmps163
 go_wp2_with (first
  |(go_at_call 61;rw[<-HW.out];refine(Xc.first (XK _ _ hn)).mono ?_;rintro e w' ⟨rfl,y,rfl⟩)
  |(go_at_call 114;refine(Xc.after nr (Yc _ _ _ _)).mono ?_;rintro e w' ⟨rfl,y,rfl⟩))
 all_goals
  go_ret;exact Xc.mk (congrArg Value.bool (by rw[Xb7];simp_all)) (hH.out _)
theorem XiR(x:Xu)(len:Int)(hJ:0<=len)(hK:len<=1048576)(w:World):Calls Tryz.prog 164 #[.agg #[.string x.name,.int .i64 x.place,.int .i64 x.width,.int .i64 x.weight,.int .i64 x.hang,.int .i64 x.front,.int .i64 x.back],.int .i64 len] w (Xc w (.bool (Qi x len))):=by
 obtain⟨W,hW,hH,hC,hD⟩:=bxit w x;have hc:=λy:Xb W.heap.size W=>Xu.boxed hD (by omega) y;have hE:=bdo hC;have HW:=Xa hW;have hG:=Xa hE;clear hW hH hD hE;cases hw:Xg x.width 1 1048576
 ·go_enter Tryz.func164,Tryz.ntmps164;go_wp2_with (go_at_call 114;rw[<-HW.out];refine(Xc.first (Yc _ _ _ _)).mono ?_;rintro e w' ⟨rfl,y,rfl⟩)
  ·go_ret;exact Xc.mk (congrArg Value.bool (by rw[Qi,hw];simp)) (hG.out _)
  ·go_ret;rw[<-HW.out];exact Xc.mk (congrArg Value.bool (by rw[Qi,hw];simp)) hC
 ·have hI:=Xz.1 hw;obtain⟨w0,w1⟩:=hI;go_enter Tryz.func164,Tryz.ntmps164;go_wp2_with (go_at_call 114;rw[<-HW.out];refine(Xc.first (Yc _ _ _ _)).mono ?_;rintro e w' ⟨rfl,y,rfl⟩)
  ·go_ret;exact Xc.mk (congrArg Value.bool (by rw[Qi,hw];simp_all)) (hG.out _)
  ·go_ret;rw[<-HW.out];exact Xc.mk (congrArg Value.bool (by rw[Qi,hw];simp;omega)) hC
end Go.Proofs.YtdcahhbipeaggaaGreatDoor
