/- Lemmas for TopPrinted: SecDrawBad. -/
import Derived.Test.YtdcahhbipeaggaaGreatDoorTabsP
set_option maxRecDepth 100000
set_option maxHeartbeats 16000000
namespace Go.Proofs.YtdcahhbipeaggaaGreatDoor
open Go.RowKit
theorem Xog{l:List Xd}{tr:List Int}(h:tr.length=l.length)(h0:ZG l tr≠0):ZG l tr=2:=by
 unfold ZG at*;rw[if_pos h] at*;split at h0
 ·omega
 ·rw[if_neg ‹_›]
theorem Xjv(h:Xf)(hE:h.ok)(trims:Sl Int)(scale:Int)(h0:XaZ h scale≠0)(w:World)(B:Nat)(hB:B<=w.heap.size)(hG:Xf.at_ w B h):
 Calls Tryz.prog 16 #[.agg #[.string h.name,.int .i64 h.aH,.slice h.aA.A h.aA.l.length h.aA.cap,.slice h.aB.A h.aB.l.length h.aB.cap],.slice trims.A trims.l.length trims.cap,.int .i64 scale] w (Xc w (.tuple #[.string ⟨#[]⟩,.int .i64 (XaZ h scale)])):=by
 obtain⟨W,hW,hJ,hD,hH⟩:=bxhs w h;have hc:=λy:Xb W.heap.size W=>Xf.boxed hH (by omega) y;have hI:=bdo hD;have hC:Xf.at_ W W.heap.size h:=hG.to (hD.mono hB) (by omega);have KB:=Xa (Xc.after (x:=Xb.refl W.heap.size W) nr (Xt5 h hE scale h0 W W.heap.size nr hC));have hL:(XaZ h scale==0)=false:=by simp;omega
 have HW:=Xa hW;have hK:=Xa hI;clear hW hJ hH hD hI hG hC hE h0;generalize XaZ h scale=e0 at*;go_enter Tryz.func16,Tryz.ntmps16;go_wp2_with (go_at_call 49;rw[<-HW.out];refine KB.out.mono ?_;rintro e w' ⟨rfl,y,rfl⟩)
 go_ret2;exact Xc.mk rfl (hK.out _)
theorem Xju(h:Xf)(hV:h.ok)(trims:Sl Int)(scale:Int)(h0:XaZ h scale=0)(ht:ZG h.aA.l trims.l≠0)(w:World)(B:Nat)(hB:B<=w.heap.size)(hK:Xf.at_ w B h)(hD:XA w B 1 Xj trims):
 Calls Tryz.prog 16 #[.agg #[.string h.name,.int .i64 h.aH,.slice h.aA.A h.aA.l.length h.aA.cap,.slice h.aB.A h.aB.l.length h.aB.cap],.slice trims.A trims.l.length trims.cap,.int .i64 scale] w (Xc w (.tuple #[.string ⟨#[]⟩,.int .i64 (ZG h.aA.l trims.l)])):=by
 obtain⟨W,hW,pD,hL,hX⟩:=bxhs w h;have hc:=λy:Xb W.heap.size W=>Xf.boxed hX (by omega) y;have hY:∀v:World,Below W.heap.size W v->Below w.heap.size w v:=λv hv=>hL.trans (hv.mono (by omega));have hH:Xf.at_ W W.heap.size h:=hK.to (hL.mono hB) (by omega);have hE:XA W W.heap.size 1 Xj trims:=hD.to (hL.mono hB) (by omega);have hN:=Xn2 h hV scale h0 W W.heap.size nr hH;unfold Xhx at hN;have pP:h.aA.l.length<=h.aA.cap:=hK.aA.1
 have hm:h.aA.cap<=9223372036854775807:=hK.aA.2.1;have pQ:trims.l.length<=trims.cap:=hD.1;have pR:trims.cap<=9223372036854775807:=hD.2.1;have pE:=Xa hH.aA;have pF:=Xa hE;have HG:=Xa hN;have HW:=Xa hW;have hO:=Xa hY;have pS:∀y:Xb W.heap.size W,w.heap.size<y.val.heap.size:=λy=>Nat.lt_of_lt_of_le (show w.heap.size<W.heap.size by omega) y.size;have hZ:=Xa ht;clear hW pD hX hL hY hK hH hD hE hV hN h0 ht;obtain⟨name,aH,⟨A,cap,l⟩,aB⟩:=h;obtain⟨TA,tcap,tr⟩:=trims;simp only at*;by_cases hlen:tr.length=l.length
 ·have hM:=Xa hlen;have HE:=Xa (Xog hlen hZ.out);have pG:((tr.length:Int) !=(l.length:Int))=false:=by rw[hlen];simp
  clear hlen;go_enter Tryz.func16,Tryz.ntmps16;go_wp2_with (go_at_call 49;rw[<-HW.out];refine HG.out.mono ?_;rintro e w0 ⟨hb,pb,pH,rfl,hP⟩;obtain⟨x0,rfl⟩:∃x:Xb W.heap.size W,w0=x.val:=Xb.exists_iff hb)
  clear hP hb;go_loopw [10,11,41] (λ_ _ v wr=>∃k:Nat,v=.int .i64 k/\k<=l.length/\Hid (∀i,i<k->Jp l tr i=true)/\∃x:Xb W.heap.size W,wr=x.val) (λ_ _ v _=>l.length-(intOf v).toNat)
  case atStart=>exact⟨0,rfl,Nat.zero_le _,Xa (λi hi=>absurd hi (by omega)),_,rfl⟩
  case round=>
   obtain⟨k,rfl,hk,HD,x,rfl⟩:=hrel;by_cases pI:k<l.length
   ·obtain⟨b,off,hA,pJ,hG⟩:=pE.out.2.2 (show 0<l.length by omega);obtain⟨bt,offt,pA,pK,hC⟩:=pF.out.2.2 (show 0<tr.length by have:=hM.out;omega);simp only at hA pA;subst hA;subst pA;have hx:l[k]? =some l[k]:=lgE pI;have he:=λx:Xb W.heap.size W=>Xd.elem hx pJ hG x;have pL:k<tr.length:=by have:=hM.out;omega
    have pB:tr[k]? =some (nth tr k):=XaH pL;have pM:=λx:Xb W.heap.size W=>XaL pB pK hC x;have pN:=Xa (show Jp l tr k=(decide (l[k].low<=nth tr k)&&decide (nth tr k<=l[k].high)) by rw[Jp,Xbw hx]);have kt0:(0:Int)<=(k:Int):=by omega
    have kt1:(k:Int)<(tr.length:Int):=by omega
    clear hG hC hx pB;obtain⟨W',pC,hQ,hI,hJ⟩:=boxed x.val (.cells #[.string l[k].name,.int .i64 l[k].depth,.int .i64 l[k].low,.int .i64 l[k].high,.int .i64 l[k].length,.slice l[k].aG.A l[k].aG.l.length l[k].aG.cap,.int .i64 l[k].aM,.int .i64 l[k].aN,.int .i64 l[k].aI,.int .i64 l[k].most,.int .i64 l[k].aJ,.slice l[k].aF.A l[k].aF.l.length l[k].aF.cap,.slice l[k].aE.A l[k].aE.l.length l[k].aE.cap] 57);have pT:=λy:Xb W'.heap.size W'=>Xd.boxed hJ (by omega) y;have hR:∀y:Xb W'.heap.size W',Below W.heap.size W y.val:=λy=>x.below.trans ((hI.mono x.size).trans (y.below.mono (by have:=x.size;omega)))
    have pU:∀y:Xb W'.heap.size W',y.val.cell? ⟨bt,offt+k,none⟩=some (.int .i64 (nth tr k)):=λy=>pM ⟨y.val,hR y⟩;have hT:=Xa pC;have hU:=Xa hR;clear pC hQ hJ hI hR;generalize nth tr k=t at*;by_cases q1:t<l[k].low
    ·have g1:decide (t<l[k].low)=true:=by simp;omega
     go_wp2_with fail;rw[<-hT.out];refine Yq W'.heap.size (by kernel_rfl) (by kernel_rfl) ?_
     repeat (go_big_quiet_step (fail))
     refine wpQuiet_nil ?_;intro y;go_wp2;go_ret2;exact Xc.mk (by rw[HE.out];rfl) (hO.out _ (hU.out y))
    ·have g1:decide (t<l[k].low)=false:=by simp;omega
     by_cases q2:l[k].high<t
     ·have g2:decide (l[k].high<t)=true:=by simp;omega
      go_wp2_with fail;rw[<-hT.out];refine Yq W'.heap.size (by kernel_rfl) (by kernel_rfl) ?_
      repeat (go_big_quiet_step (fail))
      refine wpQuiet_nil ?_;intro y;go_wp2;go_ret2;exact Xc.mk (by rw[HE.out];rfl) (hO.out _ (hU.out y))
     ·have g2:decide (l[k].high<t)=false:=by simp;omega
      have pO:=Xa (show ∀i,i<k+1->Jp l tr i=true from λi hi=>by
       by_cases h:i=k
       ·rw[h,pN.out];simp;omega
       ·exact HD.out i (by omega))
      go_wp2_with fail;rw[<-hT.out];refine Yq W'.heap.size (by kernel_rfl) (by kernel_rfl) ?_
      repeat (go_big_quiet_step (fail))
      refine wpQuiet_nil ?_;intro y;go_wp2;exact⟨⟨k+1,by go_num,by omega,pO,⟨_,hU.out y⟩,rfl⟩,by simp[intOf];omega⟩
   ·exact absurd (XqA hM.out (λi hi=>HD.out i (by have:=hM.out;omega))) hZ.out
 ·have pG:((tr.length:Int)==(l.length:Int))=false:=by simp;omega
  have HE:=Xa (Xoh hlen);clear hlen;go_enter Tryz.func16,Tryz.ntmps16;go_wp2_with (go_at_call 49;rw[<-HW.out];refine HG.out.mono ?_;rintro e w0 ⟨hb,pb,pH,rfl,hP⟩;obtain⟨x0,rfl⟩:∃x:Xb W.heap.size W,w0=x.val:=Xb.exists_iff hb)
  go_ret2;exact Xc.mk (by rw[HE.out];rfl) (hO.out _ x0.below)
end Go.Proofs.YtdcahhbipeaggaaGreatDoor
