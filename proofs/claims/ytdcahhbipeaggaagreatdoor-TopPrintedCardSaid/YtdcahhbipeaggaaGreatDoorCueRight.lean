/- Lemmas for TopPrinted: CueRight. -/
import Derived.Test.YtdcahhbipeaggaaGreatDoorCueFind
import Derived.Test.YtdcahhbipeaggaaGreatDoorSrcAt
set_option maxRecDepth 100000
set_option maxHeartbeats 16000000
namespace Go.Proofs.YtdcahhbipeaggaaGreatDoor
open Go.RowKit
theorem Xex{α:Type}(p:α->Bool):∀(l:List α) (i:Nat),(YL p i l= -1/\∀x∈l,p x=false)\/∃(j:Nat) (x:α),YL p i l=((i+j:Nat):Int)/\l[j]? =some x/\p x=true/\∀(k:Nat) (y:α),k<j->l[k]? =some y->p y=false
 |[],_=>Or.inl ⟨rfl,λ_ h=>by cases h⟩
 |a::l,i=>by
  cases ha:p a with
  |true=>exact Or.inr ⟨0,a,by simp[YL,ha],rfl,ha,λk y hk=>by omega⟩
  |false=>
   rcases Xex p l (i+1) with ⟨h1,h2⟩|⟨j,x,h1,h2,h3,h4⟩
   ·refine Or.inl ⟨by rw[YL,ha];simpa using h1,λx hx=> ?_⟩;rcases List.mem_cons.1 hx with rfl|hx
    ·exact ha
    ·exact h2 x hx
   ·refine Or.inr ⟨j+1,x,by rw[YL,ha,show i+(j+1)=i+1+j by omega];simpa using h1,by simpa using h2,h3,λk y hk hy=> ?_⟩;cases k with
    |zero=>simp at hy;subst hy;exact ha
    |succ k=>exact h4 k y (by omega) (by simpa using hy)
theorem XkX{α:Type}(p:α->Bool)(l:List α):(idx p l= -1/\∀x∈l,p x=false)\/∃(j:Nat) (x:α),idx p l=(j:Int)/\l[j]? =some x/\p x=true/\∀(k:Nat) (y:α),k<j->l[k]? =some y->p y=false:=by
 have:=Xex p l 0;simpa[idx] using this
def XdB(l:List Yi)(nm:ByteArray):Int:=idx (λs=>Xm s.name nm) l
theorem XcL(l:List Xd)(nm:ByteArray):YY l nm=XdB (l.map Xd.pl) nm:=by unfold YY XdB;rw[Xl5];rfl
def XkO(n:Int):Bool:=decide (n=1)||decide (n=2)||decide (n=3)
def JY(nm:ByteArray)(lk dl cr pw:Int):Bool:=XF nm&&XkO lk&&Xg dl 0 2147483648&&Xg cr 0 100&&Xg pw 0 100
def XeT(S:List Yi)(m:Xw):Bool:=decide (0<=XdB S m.set)&&(match S[(XdB S m.set).toNat]? with|some s=>Xg m.to s.low s.high|none=>false)
def Xa6(S:List Yi)(l:List Xw)(i:Nat)(m:Xw):Bool:=QI m&&XeT S m&& !(l.take i).any (λx=>Xm x.set m.set)
def ZY(S:List Yi)(q:XW):Bool:=JY q.name q.link q.aL q.crew q.power&&X8 (Xa6 S q.aD) q.aD
theorem Xj1:∀args w,(callFunc 69 args).run Tryz.prog w=.ok (.enter 69 args) w:=XZ Tryz.func69 (by kernel_rfl) rfl
theorem XoF(x m:Xw)(nb:Nat)(w:World)(hn:nb<w.heap.size)(hc:w.cell? ⟨nb,0,none⟩=some (.string m.set)):
 Calls Tryz.prog 69 #[.agg #[.string x.set,.int .i64 x.to,.int .i64 x.aK,.int .i64 x.rise,.int .i64 x.fall],.pointer (some ⟨nb,0,none⟩)] w (Xc w (.bool (Xm x.set m.set))):=by
 have hC:∀o:Obj,(w.alloc o).cell? ⟨nb,0,none⟩=some (.string m.set):=λo=>by rw[World.cell?_alloc_lt w o ⟨nb,0,none⟩ hn];exact hc
 go_enter Tryz.func69,Tryz.ntmps69;go_wp2;go_ret;exact Xc.mk rfl (brf.alloc nr _)
theorem Xkw(h:Xf)(q:Xn)(hq:q.ok)(w:World)(B:Nat)(hB:B<=w.heap.size)(pD:Xf.at_ w B h)(qat:Xn.at_ w B q):
 Calls Tryz.prog 23 #[.agg #[.string h.name,.int .i64 h.aH,.slice h.aA.A h.aA.l.length h.aA.cap,.slice h.aB.A h.aB.l.length h.aB.cap],.agg #[.string q.name,.string q.after,.int .i64 q.link,.int .i64 q.aL,.slice q.aD.A q.aD.l.length q.aD.cap,.int .i64 q.crew,.int .i64 q.power]] w (Xc w (.bool (ZY (h.aA.l.map Xd.pl) q.pl))):=by
 obtain⟨W1,pE,pF,pG,pH⟩:=bxhs w h;obtain⟨W,pI,pZ,hJ,hV⟩:=bxcu W1 q;have hb:Below w.heap.size w W:=pG.trans (hJ.mono (by omega));have hL:=(hJ.block _ (by omega)).trans pH;rw[pF] at hV;have hQ:=λy:Xb W.heap.size W=>Xf.boxed hL (by omega) y;have hW:=λy:Xb W.heap.size W=>Xn.boxed hV (by omega) y
 have pJ:=bdo hb;have hG:=pD.to (hb.mono hB) (show B<=W.heap.size by omega);have qatW:=(qat.to (hb.mono hB) (show B<=W.heap.size by omega)).aD;have hsz:w.heap.size+1<W.heap.size:=by omega
 have HW:=Xa (show(w.alloc (.cells #[.string h.name,.int .i64 h.aH,.slice h.aA.A h.aA.l.length h.aA.cap,.slice h.aB.A h.aB.l.length h.aB.cap] 25)).alloc (.cells #[.string q.name,.string q.after,.int .i64 q.link,.int .i64 q.aL,.slice q.aD.A q.aD.l.length q.aD.cap,.int .i64 q.crew,.int .i64 q.power] 70)=W by rw[<-pE,<-pI]);have hX:=Xa pJ;have hM:=Xa hG;have hH:=Xa qatW;have pK:h.aA.cap<=9223372036854775807:=hG.aA.2.1;have pL:h.aA.l.length<=h.aA.cap:=hG.aA.1;have hZ:=Xa hq.aD;have pA:=Xa hq.name;clear pE pI pF pZ pG hJ pH hV hL hb pJ pD qat hG qatW hq
 obtain⟨nm,af,lk,dl,⟨mA,mcap,ml⟩,cr,pw⟩:=q;obtain⟨hn,qH,⟨sA,scap,sl⟩,rfs⟩:=h;simp only[Xn.pl] at*;have pM:mcap<=9223372036854775807:=hH.out.2.1;have pN:ml.length<=mcap:=hH.out.1;obtain⟨S,hS⟩:∃S,S=sl.map Xd.pl:=⟨_,rfl⟩
 rw[<-hS];have HS:=Xa hS;clear hS;have pO:=And.intro (hQ (Xb.refl _ _)) (hW (Xb.refl _ _));simp only[Xb.refl] at pO;go_enter Tryz.func23,Tryz.ntmps23;go_upto_region 1 with fail;rw[HW.out];go_cut [44] (λa wx=>a=.bool (!JY nm lk dl cr pw)/\∃z:Xb W.heap.size W,wx=z.val)
 case first=>
  clear hQ;cases g1:XF nm
  ·go_wp2_with (go_at_call 61;refine(Xc.first (XK _ _ pA.out)).mono ?_;rintro e w' ⟨rfl,y,rfl⟩;rw[g1])
   go_meet;exact⟨by simp[JY,g1],y,rfl⟩
  cases g2:XkO lk
  ·have hl:¬lk=1/\¬lk=2/\¬lk=3:=by simpa[XkO,and_assoc] using g2
   have l1:(lk==1)=false/\(lk !=1)=true/\(lk==2)=false/\(lk !=2)=true/\(lk==3)=false/\(lk !=3)=true:=by simp[hl]
   go_wp2_with (go_at_call 61;refine(Xc.first (XK _ _ pA.out)).mono ?_;rintro e w' ⟨rfl,y,rfl⟩;rw[g1])
   go_meet;exact⟨by simp[JY,g2],y,rfl⟩
  have hl:lk=1\/lk=2\/lk=3:=by simpa[XkO,or_assoc] using g2
  clear g2;cases g3:Xg dl 0 2147483648
  all_goals cases g4:Xg cr 0 100
  all_goals cases g5:Xg pw 0 100
  all_goals
   rcases hl with rfl|rfl|rfl
  all_goals
   go_wp2_with (first
    |(go_at_call 61;refine(Xc.first (XK _ _ pA.out)).mono ?_;rintro e w' ⟨rfl,y,rfl⟩;rw[g1])
    |(go_at_call 65;refine(Xc.after nr (Xbl _ _ _ _)).mono ?_;rintro e w' ⟨rfl,y,rfl⟩;first|rw[g3]|rw[g4]|rw[g5]))
   go_meet;exact⟨by simp[JY,XkO,g1,g3,g4,g5],y,rfl⟩
 case rest=>
  obtain⟨rfl,z,rfl⟩:=hcut;cases hh:JY nm lk dl cr pw
  ·go_wp2_with fail;go_ret;exact Xc.mk (by simp[ZY,hh]) (hX.out z)
  have HH:=Xa hh;clear hh pO;rw[show(!true)=false from rfl];go_wp2_with fail;go_loopw [48] (λv wr=>∃k:Nat,v=.int .i64 k/\k<=ml.length/\Hid (YA (Xa6 S ml) ml k)/\∃x:Xb W.heap.size W,wr=x.val) (λv _=>ml.length-(intOf v).toNat)
  case atStart=>exact⟨0,rfl,Nat.zero_le _,YA.zero _ _,z,rfl⟩
  case round=>
   obtain⟨k,rfl,hk,hN,x,rfl⟩:=hrel;by_cases pP:k<ml.length
   ·obtain⟨b,off,hA,hb,hI⟩:=hH.out.2.2 (show 0<ml.length by omega);simp only at hA;subst hA;have hx:ml[k]? =some ml[k]:=lgE pP;have pQ:=(hZ.out ml[k] (List.getElem_mem pP)).set;have he:=λx:Xb W.heap.size W=>Xw.elem hx hb hI x;have HX:=Xa hx;clear hI hx;obtain⟨Y,hY,pR,pS,pT⟩:=boxed x.val (.cells #[.string ml[k].set,.int .i64 ml[k].to,.int .i64 ml[k].aK,.int .i64 ml[k].rise,.int .i64 ml[k].fall] 72);have pU:=λy:Xb Y.heap.size Y=>Xw.boxed pT (by omega) y;have hD:Below W.heap.size W Y:=x.below.trans (pS.mono x.size);have qA:∀y:Xb Y.heap.size Y,∃x':Xb W.heap.size W,x'.val=y.val:=λy=>⟨⟨y.val,hD.trans (y.below.mono hD.size)⟩,rfl⟩
    have pV:=λy:Xb Y.heap.size Y=>And.intro (hQ ⟨y.val,hD.trans (y.below.mono hD.size)⟩) (hW ⟨y.val,hD.trans (y.below.mono hD.size)⟩);simp only at pV;have qB:=pV (Xb.refl _ _);have qC:=pU (Xb.refl _ _);simp only[Xb.refl] at qB qC;have HY:=Xa hY;clear hY pT;have hC:W.heap.size<=Y.heap.size:=hD.size;have KS:=Xa (λ(y:Xb Y.heap.size Y)=>Xc.after (x:=y) nr (Xfb _ ml[k].set y.val W.heap.size (Nat.le_trans hC y.size) (hM.out.to (hD.trans (y.below.mono hC)) nr)));have hR:=Xa hD;have hT:=Xa (show ∀y:Xb Y.heap.size Y,Below w.heap.size w y.val from λy=>hX.out ⟨y.val,hD.trans (y.below.mono hC)⟩)
    have hU:=Xa (λ(hf:Xa6 S ml k ml[k]=false)=>(show ZY S ⟨nm,af,lk,dl,ml,cr,pw⟩=false by rw[ZY,YP HX.out hf,Bool.and_false]));have qD:=Xa pR;clear hD qA pS pR hQ hW;go_upto_region 6 with fail;rw[<-HY.out];have KV:=λy:Xb Y.heap.size Y=>Xc.after (x:=y) nr (Xel ml[k] pQ y.val);clear pQ;cases hO:QI ml[k]
    ·obtain⟨K,hK⟩:∃K,K=YY sl ml[k].set:=⟨_,rfl⟩
     rw[<-hK] at KS;rw[hO] at KV;have KV:=Xa KV;clear hK;go_wp2_with (go_at_call 66;refine(KS.out (Xb.refl _ _)).mono ?_;rintro e w' ⟨rfl,y,rfl⟩)
     refine Xk y (by kernel_rfl) (by kernel_rfl) ?_
     repeat (go_big_quiet_step ((go_at_call 67;exact KV.out _)))
     refine wpQuiet_nil ?_;intro z;go_wp2_with fail;go_ret;exact Xc.mk (congrArg Value.bool (hU.out (by rw[Xa6,hO];rfl)).symm) (hT.out _)
    rw[hO] at KV;rcases XkX (λs:Xd=>Xm s.name ml[k].set) sl with ⟨eK,-⟩|⟨j,s,eK,hs,-,-⟩
    ·have eR:XeT S ml[k]=false:=by
      have:=XcL sl ml[k].set;rw[<-HS.out] at this;rw[XeT,<-this,show YY sl ml[k].set= -1 from eK];rfl
     rw[show YY sl ml[k].set= -1 from eK] at KS;have KV:=Xa KV;clear eK;go_wp2_with (go_at_call 66;refine(KS.out (Xb.refl _ _)).mono ?_;rintro e w' ⟨rfl,y,rfl⟩)
     refine Xk y (by kernel_rfl) (by kernel_rfl) ?_
     repeat (go_big_quiet_step ((go_at_call 67;exact KV.out _)))
     refine wpQuiet_nil ?_;intro z;go_wp2_with fail;go_ret;exact Xc.mk (congrArg Value.bool (hU.out (by rw[Xa6,eR,Bool.and_false];rfl)).symm) (hT.out _)
    have eS:S[j]? =some s.pl:=by rw[HS.out,List.getElem?_map,hs];rfl
    have eR:XeT S ml[k]=Xg ml[k].to s.low s.high:=by
     have:=XcL sl ml[k].set;rw[<-HS.out] at this;rw[XeT,<-this,show YY sl ml[k].set=(j:Int) from eK];simp[eS,Xd.pl]
    rw[show YY sl ml[k].set=(j:Int) from eK] at KS;have KV:=Xa KV;have qI:=(lgS hs).1;obtain⟨b2,off2,pW,hJ,hE⟩:=hM.out.aA.2.2 (show 0<sl.length by omega);simp only at pW;subst pW;have pB:=λy:Xb W.heap.size W=>Xd.elem hs hJ hE y;have pC:=λy:Xb Y.heap.size Y=>And.intro (pB ⟨y.val,hR.out.trans (y.below.mono hC)⟩).2.2.1 (pB ⟨y.val,hR.out.trans (y.below.mono hC)⟩).2.2.2.1;simp only at pC;have KB:=Xa (λy:Xb Y.heap.size Y=>Xc.after (x:=y) nr (Xbl ml[k].to s.low s.high y.val));clear eK hs hE pB;have qE:∀y:Xb Y.heap.size Y,XA y.val y.val.heap.size 5 Xw.cells ⟨some ⟨b,off,none⟩,mcap,ml.take k⟩:=λy=>(hH.out.to (hR.out.trans (y.below.mono hC)) (Nat.le_trans hC y.size)).take k
    have hP:∀y:Xb Y.heap.size Y,x.val.heap.size<y.val.heap.size:=λy=>Nat.lt_of_lt_of_le (by rw[qD.out];omega) y.size
    have KC:=Xa (λy:Xb Y.heap.size Y=>(show Calls Tryz.prog 68 #[.slice (some ⟨b,off,none⟩) k mcap,.func (.func 69) #[] #[.pointer (some ⟨x.val.heap.size,0,none⟩)]] y.val _ from by
     have c:=XgO (some ⟨b,off,none⟩) mcap (ml.take k) (λx=>Xm x.set ml[k].set) 69 #[.pointer (some ⟨x.val.heap.size,0,none⟩)] Xj1 y.val y.val.heap.size nr (qE y)
      (λz e _=>by rw[XcA];exact XoF e ml[k] _ z.val (Nat.lt_of_lt_of_le (hP y) z.size) ((z.below.cell (p:=⟨x.val.heap.size,0,none⟩) (hP y)).trans (pU y).1))
     rw[show(ml.take k).length=k by rw[List.length_take];omega] at c
     exact Xc.after nr c))
    cases pX:Xg ml[k].to s.low s.high
    ·rw[pX] at KB eR;have qF:(0:Int)<=(j:Int)/\(j:Int)<(sl.length:Int):=by omega
     have qG:decide ((j:Int)<0)=false:=by simp
     go_wp2_with (go_at_call 66;refine(KS.out (Xb.refl _ _)).mono ?_;rintro e w' ⟨rfl,y,rfl⟩)
     refine Xk y (by kernel_rfl) (by kernel_rfl) ?_
     repeat (go_big_quiet_step (first|(go_at_call 67;exact KV.out _)|(go_at_call 65;exact KB.out _)))
     refine wpQuiet_nil ?_;intro z;go_wp2_with fail;go_ret;exact Xc.mk (congrArg Value.bool (hU.out (by rw[Xa6,eR,Bool.and_false];rfl)).symm) (hT.out _)
    ·rw[pX] at KB eR;have qF:(0:Int)<=(j:Int)/\(j:Int)<(sl.length:Int):=by omega
     have qG:decide ((j:Int)<0)=false:=by simp
     cases pY:(ml.take k).any (λx=>Xm x.set ml[k].set)
     all_goals
      go_wp2_with (go_at_call 66;refine(KS.out (Xb.refl _ _)).mono ?_;rintro e w' ⟨rfl,y,rfl⟩)
      refine Xk y (by kernel_rfl) (by kernel_rfl) ?_
      repeat (go_big_quiet_step (first|(go_at_call 67;exact KV.out _)|(go_at_call 65;exact KB.out _)|(go_at_call 68;exact KC.out _)))
      refine wpQuiet_nil ?_;intro z;go_wp2
     ·exact⟨⟨k+1,by go_num,by omega,hN.out.next HX.out (by rw[Xa6,hO,eR,pY];rfl),⟨z.val,hR.out.trans (z.below.mono hC)⟩,rfl⟩,by simp[intOf];omega⟩
     ·go_ret;exact Xc.mk (congrArg Value.bool (hU.out (by rw[Xa6,hO,eR,pY];rfl)).symm) (hT.out _)
   ·go_wp2;go_ret;exact Xc.mk (by rw[ZY];simp[hN.out.all (show ml.length<=k by omega),HH.out]) (hX.out x)
end Go.Proofs.YtdcahhbipeaggaaGreatDoor
