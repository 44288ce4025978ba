/- Lemmas for TopPrinted: LinkOrd. -/
import Derived.Test.YtdcahhbipeaggaaGreatDoorLinkOf
import Derived.Deep.OwnRows
set_option maxRecDepth 100000
set_option maxHeartbeats 16000000
namespace Go.Proofs.YtdcahhbipeaggaaGreatDoor
open Go.RowKit
theorem Xtw:(Tryz.prog.info? 4).map (λi=>(i.zero,i.size,i.bytes))=some (some (.bool false),1,1):=by kernel_rfl
theorem X7.ne{α:Type}{t t':TypeId}{size:Nat}{cells:α->List Value}{W x:World}{v:Value}{l:List α}{tb n:Nat}{f:Nat->Value}(h:X7 t size cells W v l x)(hr:x.rowIs tb t' n f)(ht:t≠t'):v.ownBlock≠some tb:=by
 obtain⟨c,hb,-⟩:=hr;rcases h.own.2 with ⟨hv,_⟩|⟨g,cap,cur,hv,-,hh,-⟩
 ·rw[hv];simp[Value.ownBlock]
 ·rw[hv];intro e;simp[Value.ownBlock] at e;subst e;rw[hb] at hh;injection hh with hh;injection hh with _ h2;exact ht h2.symm
theorem X7.setOther{α:Type}{t:TypeId}{size:Nat}{cells:α->List Value}{W x:World}{v:Value}{l:List α}(h:X7 t size cells W v l x){b:Nat}(hb:W.heap.size<=b)(hC:v.ownBlock≠some b)(i:Nat)(u:Value):X7 t size cells W v l (x.setCell ⟨b,i,none⟩ u):=
 ⟨h.own.kept (row:=some b) ⟨rfl,rfl,rfl,by simp[World.setCell],λk _ hk=>Below.heap_setCell _ _ _ _ (λe=>hk (by simp[e]))⟩ (Or.inr hC),h.bel.setCell (p:=⟨b,i,none⟩) hb u⟩
def Xfr:Value->Nat|.slice _ l _=>l|_=>0
def XiI(n:Nat):Int:=(n:Int)
theorem Xdr(k:Nat):((List.range k).map XiI).length=k:=by simp
theorem XkI(k:Nat):(List.range (k+1)).map XiI=(List.range k).map XiI++[(k:Int)]:=by rw[List.range_succ,List.map_append];rfl
structure Xgl(Y:World)(tb n k:Nat)(v:Value)(x:World):Prop where
 own:X7 3 1 Xj Y v ((List.range k).map XiI) x
 row:x.rowIs tb 4 n (λj=> .bool (decide (j<k)))
 base:Y.heap.size<=tb
 nil:k=0->v=.slice none 0 0
theorem X7.len{α:Type}{t:TypeId}{size:Nat}{cells:α->List Value}{W x:World}{v:Value}{l:List α}(h:X7 t size cells W v l x):Xfr v=l.length:=by
 rcases h.own.2 with ⟨hv,h0⟩|⟨g,cap,cur,hv,-⟩
 ·rw[hv,h0];rfl
 ·rw[hv];rfl
theorem Xgl.len{Y x:World}{tb n k:Nat}{v:Value}(h:Xgl Y tb n k v x):Xfr v=k:=by rw[h.own.len,Xdr]
theorem Xgl.mid{Y x:World}{tb n k:Nat}{v:Value}(h:Xgl Y tb n k v x):X7 3 1 Xj Y v ((List.range k).map XiI) (x.setCell ⟨tb,k,none⟩ (.bool true)):=
 h.own.setOther h.base (h.own.ne h.row (by decide)) k _
theorem Xgl.next{Y x u y:World}{tb n k:Nat}{v v':Value}(h:Xgl Y tb n k v x)(hu:Below (x.setCell ⟨tb,k,none⟩ (.bool true)).heap.size (x.setCell ⟨tb,k,none⟩ (.bool true)) u)
 (hC:y.ownsRow Y.heap.size 3 1 v' (((List.range k).map XiI).length+1) (((List.range k).map XiI).flatMap Xj++Xj k)) (hD:u.grownBy y v.ownBlock):Xgl Y tb n (k+1) v' y:=by
 refine⟨by rw[XkI];exact h.mid.append (ls:=[(k:Int)]) hu (by simpa using hC) hD,?_,h.base,λh0=>absurd h0 (by omega)⟩;have h1:=(h.row.set k (.bool true)).of_block (hu.block tb (by simpa using h.row.lt));refine((h1.of_block (hD.block tb (Nat.lt_of_lt_of_le (by simpa using h.row.lt) hu.size) (Ne.symm (h.own.ne h.row (by decide))))).congr λi hi=> ?_);by_cases e:i=k
 ·simp[e]
 ·simp only[if_neg e,Value.bool.injEq,decide_eq_decide];omega
theorem Xrb(s:Xq)(hL:Xh1 (s.aC.l.map Xn.pl) s.apart.l)(w:World)(sat:XA w w.heap.size 7 Xn.cells s.aC):
 Calls Tryz.prog 198 #[.agg #[.slice s.aC.A s.aC.l.length s.aC.cap,.slice s.apart.A s.apart.l.length s.apart.cap]] w λe w'=>∃r:Sl Int,e=.returned (.slice r.A r.l.length r.cap)/\r.l=(List.range s.aC.l.length).map XiI/\Y9 w' r/\Below w.heap.size w w':=by
 have hU:s.aC.l.length<=60:=by simpa using hL.few
 obtain⟨W,hW,pJ,hV,pB⟩:=bxsh w s;have pC:=Xq.boxed pB (by omega) (Xb.refl W.heap.size W);simp only[Xb.refl] at pC;have satW:=sat.to hV (show w.heap.size<=W.heap.size by omega);have KB:=Xa (XpJ s hU W satW);have HW:=Xa hW;have HB:=Xa hV;have pK:w.heap.size<=W.heap.size:=by omega
 obtain⟨n,hn⟩:∃n,n=s.aC.l.length:=⟨_,rfl⟩
 have HN:=Xa hn;have pL:n<=60:=by omega
 obtain⟨i0,hi,pD,pE,pF⟩:=ZW;have HI:=Xa (And.intro hi (And.intro pD (And.intro pE pF)));have hX:=Xa (λv:World=>run_make_row' (P:=Tryz.prog) 142 4 (.bool false) 1 Tryz.underlying142 Xtw rfl .i64 .i64 n (by omega) (by omega) v);clear hW pJ hV pB sat satW hn hi pD pE pF;rw[<-HN.out] at HW KB pC ⊢;go_enter Tryz.func198,Tryz.ntmps198;go_upto_region 1 with fail;rw[<-HW.out];go_upto_region 2 with (go_at_call 221;refine KB.out.mono ?_;rintro e w1 ⟨⟨hA,hc,hl⟩,rfl,hP,hY,pG⟩;replace hP:=Xa hP;have pM:hl.length=n:=by(have:=hP.out;simp only at this;rw[this];simp[HN.out]))
 have pV:=hX.out w1
 try simp only[pM]
 go_upto_region 3 with fail
 have pN:=Xa (show Xgl w1 w1.heap.size n 0 (.slice none 0 0) (w1.alloc (.cells (madeCells #[.bool false] n) 4)) from
  ⟨X7.start _ _ _ (brf.alloc nr _),(World.rowIs_made _ _ _ _).congr λj _=>by simp,Nat.le_refl _,λ_=>rfl⟩)
 generalize w1.alloc (.cells (madeCells #[.bool false] n) 4)=V at*;go_wp2_with fail;go_loopw [5] (λv5 wr=>∃k:Nat,k<=n/\Hid (Xgl w1 w1.heap.size n k v5 wr)) (λv5 _=>n-Xfr v5)
 case atStart=>exact⟨0,Nat.zero_le _,pN⟩
 case round=>
  obtain⟨k,hk,hG⟩:=hrel;generalize wr=U at*;have hQ:Below w1.heap.size w1 U:=hG.out.own.bel;have pH:=(hY.below hQ)
  have hC:=λ(i:Nat) (hi:i<n)=>hG.out.row.cell hi;by_cases hZ:k<n
  ·have hF:∃F:Int,hl[k]? =some F/\(F= -1\/∃j:Nat,F=(j:Int)/\j<k):=by
    have h0:=hP.out;obtain⟨q,hq⟩:∃q,(s.aC.l.map Xn.pl)[k]? =some q:=⟨_,lgE (by rw[List.length_map,<-HN.out];exact hZ)⟩
    refine⟨Xbe _ q,by rw[h0,List.getElem?_map,hq];rfl,?_⟩;rcases hL.link k q hq with ⟨e,-⟩|⟨e,j,ej,hj⟩
    ·left;unfold Xbe;rw[if_pos e]
    ·right;refine⟨j,?_,hj⟩;unfold Xbe;rw[if_neg (by omega)];exact ej
   obtain⟨F,hF,pO⟩:=hF;have hJ:∀i,i<n->∃x:Int,hl[i]? =some x:=λi hi=>⟨hl[i]'(by omega),lgE _⟩
   go_wp2_with fail;go_loopw [6,16] (λv6 v wr=>∃i:Nat,v6=.int .i64 (-1)/\v=.int .i64 i/\i<=k/\wr=U) (λ_ v _=>n-(intOf v).toNat)
   case atStart=>exact⟨0,rfl,rfl,Nat.zero_le _,rfl⟩
   case round=>
    obtain⟨i,rfl,rfl,hi,rfl⟩:=hrel;have hK:i<n:=by omega
    have hd:=hC i hK;obtain⟨x,hx⟩:=hJ i hK;obtain⟨b,off,hM,hb,hH⟩:=pH.slAt.2.2 (show 0<hl.length by omega);simp only at hM hH;subst hM;have pA:=hH i x hx 0 _ rfl;simp only[Nat.mul_one,Nat.add_zero] at pA;have pP:(0:Int)<=(i:Int)/\(i:Int)<(n:Int):=by omega
    by_cases pQ:i<k
    ·rw[decide_eq_true pQ] at hd;clear hH hC;go_wp2_with fail;exact⟨⟨i+1,rfl,by go_num,by omega,trivial⟩,by simp[intOf];omega⟩
    ·have pR:i=k:=by omega
     subst pR;rw[decide_eq_false (by omega)] at hd;have pS:x=F:=by rw[hF] at hx;injection hx with hx;exact hx.symm
     subst pS;have pW:=hG.out.row.frozen i;have hI:=Xa hG.out;have hR:=Xa hQ.size;have hT:=Xa (Xdr i);have hN:=Xa hG.out.mid;clear hH hC hG;rcases pO with rfl|⟨j,rfl,hj⟩
     ·go_wp2_with (at_builtin;refine Hid.out ?_)
      refine Lib.hid ?_;refine wpList_append_own _ rfl _ _ 30 rfl w1.heap.size 3 i0 _ 1 8 Tryz.underlying30 HI.out.1 HI.out.2.1 HI.out.2.2.1 HI.out.2.2.2 rfl (by decide) _ _ _ rfl (hN.out.own.alloc _) ⟨wr.heap.size,0,none⟩ 1 1 (Xj i) rfl rfl (by simpa[Xj] using cell_one_new (wr.setCell ⟨w1.heap.size,i,none⟩ (.bool true)) _ _) (λu hu=>by simp[Xj] at hu;subst hu;rfl) (by rw[hT.out];unfold maxLen;omega) (by rw[hT.out];omega) (by have:=hR.out;simp;omega) ?_;intro v' w2 hD hE _;have HN:=Xa (hI.out.next (brf.alloc nr _) hD hE);clear hD hE;go_wp2_with fail
      exact⟨⟨i+1,hZ,HN⟩,by rw[HN.out.len,hI.out.len];omega⟩
     ·have pX:wr.cell? ⟨w1.heap.size,j,none⟩=some (.bool true):=by
       have:=hI.out.row.cell (show j<n by omega)
       rwa [decide_eq_true hj] at this
      have pY:(0:Int)<=(j:Int)/\(j:Int)<(n:Int):=by omega
      go_wp2_with (at_builtin;refine Hid.out ?_)
      refine Lib.hid ?_;refine wpList_append_own _ rfl _ _ 30 rfl w1.heap.size 3 i0 _ 1 8 Tryz.underlying30 HI.out.1 HI.out.2.1 HI.out.2.2.1 HI.out.2.2.2 rfl (by decide) _ _ _ rfl (hN.out.own.alloc _) ⟨wr.heap.size,0,none⟩ 1 1 (Xj i) rfl rfl (by simpa[Xj] using cell_one_new (wr.setCell ⟨w1.heap.size,i,none⟩ (.bool true)) _ _) (λu hu=>by simp[Xj] at hu;subst hu;rfl) (by rw[hT.out];unfold maxLen;omega) (by rw[hT.out];omega) (by have:=hR.out;simp;omega) ?_;intro v' w2 hD hE _;have HN:=Xa (hI.out.next (brf.alloc nr _) hD hE);clear hD hE;go_wp2_with fail
      exact⟨⟨i+1,hZ,HN⟩,by rw[HN.out.len,hI.out.len];omega⟩
  ·have pT:k=n:=by omega
   subst pT;have hJ:∀i,i<k->∃x:Int,hl[i]? =some x:=λi hi=>⟨hl[i]'(by omega),lgE _⟩
   have hI:=Xa hG.out;have hR:=Xa hQ;clear hG hQ;go_wp2_with fail;go_loopw [6,16] (λv6 v wr=>∃i:Nat,v6=.int .i64 (-1)/\v=.int .i64 i/\i<=k/\wr=U) (λ_ v _=>k-(intOf v).toNat)
   case atStart=>exact⟨0,rfl,rfl,Nat.zero_le _,rfl⟩
   case round=>
    obtain⟨i,rfl,rfl,hi,rfl⟩:=hrel;by_cases hK:i<k
    ·have hd:=hC i hK;obtain⟨x,hx⟩:=hJ i hK;obtain⟨b,off,hM,hb,hH⟩:=pH.slAt.2.2 (show 0<hl.length by omega);simp only at hM hH;subst hM;have pA:=hH i x hx 0 _ rfl;simp only[Nat.mul_one,Nat.add_zero] at pA;have pP:(0:Int)<=(i:Int)/\(i:Int)<(k:Int):=by omega
     rw[decide_eq_true hK] at hd;clear hH hC hx;go_wp2_with fail;exact⟨⟨i+1,rfl,by go_num,by omega,trivial⟩,by simp[intOf];omega⟩
    ·clear hC
     obtain⟨⟨rA,rc,rl⟩,rfl,pI,hO⟩:=hI.out.own.rowIn (λh0=>by
      exact hI.out.nil (by simpa using congrArg List.length h0))
     have pU:=Xa pI;clear pI;go_wp2_with fail;go_ret;exact⟨⟨rA,rc,rl⟩,rfl,pU.out,hO,HB.out.trans ((pG.trans (hR.out.mono pG.size)).mono pK)⟩
end Go.Proofs.YtdcahhbipeaggaaGreatDoor
