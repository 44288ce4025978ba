/- Lemmas for TopPrinted: LinkStart. -/
import Derived.Test.YtdcahhbipeaggaaGreatDoorLinkOrd
import Derived.Test.YtdcahhbipeaggaaGreatDoorSecJoin
set_option maxRecDepth 100000
set_option maxHeartbeats 16000000
namespace Go.Proofs.YtdcahhbipeaggaaGreatDoor
open Go.RowKit
theorem XdD:∀args w,(callFunc 196 args).run Tryz.prog w=.ok (.enter 196 args) w:=XZ Tryz.func196 (by kernel_rfl) rfl
theorem Xg4(n:Int)(w:World):Calls Tryz.prog 196 #[.int .i64 n] w (Xc w (.bool (!Xah n))):=by
 have KT:=Xa (Xc.first (XfJ n w));rw[show Xg n 0 2147483648=Xah n from rfl] at KT;generalize Xah n=t at KT ⊢;go_enter Tryz.func196,Tryz.ntmps196;go_wp2_with (go_at_call 197;refine KT.out.mono ?_;rintro e w' ⟨rfl,y,rfl⟩)
 go_ret;exact Xc.mk rfl y.below
theorem XkM(z:Value)(n:Nat):(madeCells #[z] n).toList=List.replicate n z:=by
 apply List.ext_getElem?;intro i;rw[Array.getElem?_toList,List.getElem?_replicate];by_cases h:i<n
 ·simp[madeCells,h,Nat.mod_one]
 ·simp[madeCells,h]
theorem Xnx(w:World)(n:Nat)(hn:n<=1000):YW (w.alloc (.cells (madeCells #[.int .i64 0] n) 3)) w.heap.size n (List.replicate n 0):=
 ⟨_,heap_alloc_new w _,by simp,by unfold maxLen;omega,by rw[<-Array.length_toList,XkM,List.length_replicate],by rw[XkM];simp⟩
def Q8(E:List Int×Int)(w:World)(e:Ending)(w':World):Prop:=
 Below w.heap.size w w'/\∃r:Sl Int,e=.returned (.tuple #[.slice r.A r.l.length r.cap,.int .i64 E.2])/\r.l=E.1/\Y9 w' r
theorem Q8.no{E:List Int×Int}{w w':World}{n:Int}(hE:E=([],n))(h:Below w.heap.size w w'):Q8 E w (.returned (.tuple #[.slice none 0 0,.int .i64 n])) w':=by
 subst hE;exact⟨h,⟨Option.none,0,[]⟩,rfl,rfl,Or.inl ⟨rfl,rfl,rfl⟩⟩
theorem Xvn(l:List Int):l.any (λn=> !Xah n)= !l.all Xah:=by
 induction l with
 |nil=>rfl
 |cons a l ih=>rw[List.any_cons,List.all_cons,ih,Bool.not_and]
theorem Xop(s:Xq)(sok:s.ok)(hL:Xh1 (s.aC.l.map Xn.pl) s.apart.l)(L G:Sl Int)(qL:L.l.length=s.aC.l.length)(w:World)(sat:Xq.at_ w w.heap.size s)(Lat:XA w w.heap.size 1 Xj L)(Gat:XA w w.heap.size 1 Xj G):
 Calls Tryz.prog 150 #[.agg #[.slice s.aC.A s.aC.l.length s.aC.cap,.slice s.apart.A s.apart.l.length s.apart.cap],.slice L.A L.l.length L.cap,.slice G.A G.l.length G.cap] w (Q8 (XI (s.aC.l.map Xn.pl) L.l G.l) w):=by
 have qM:s.aC.l.length<=60:=by simpa using hL.few
 obtain⟨W,hW,rX,pF,rF⟩:=bxsh w s;have hV:=λy:Xb W.heap.size W=>Xq.boxed rF (by omega) y;have satW:=sat.to pF (show w.heap.size<=W.heap.size by omega);have LatW:=Lat.to pF (show w.heap.size<=W.heap.size by omega);have GatW:=Gat.to pF (show w.heap.size<=W.heap.size by omega);have KL:=Xa (Xc.first (Xo8 s sok hL W satW));have KO:=Xa (λy:Xb W.heap.size W=>Xrb s hL y.val (satW.aC.to y.below y.size));have KF:=Xa (λ(nm:ByteArray) (x:World) (y:Xb W.heap.size W) (hx:x=y.val)=>XaI s nm x W.heap.size (hx▸y.size) (hx▸satW.aC.to y.below nr))
 have pG:=Xa (λy:Xb W.heap.size W=>Xc.after (x:=y) nr (ZQ L.A L.cap L.l (λn=> !Xah n) 196 #[] XdD y.val W.heap.size y.size (LatW.to y.below nr) (λz e _=>Xg4 e z.val)));have pY:=Xa (λy:Xb W.heap.size W=>Xc.after (x:=y) nr (ZQ G.A G.cap G.l (λn=> !Xah n) 196 #[] XdD y.val W.heap.size y.size (GatW.to y.below nr) (λz e _=>Xg4 e z.val)));rw[Xvn] at pG pY;have HW:=Xa hW;have HB:=Xa (λy:Xb W.heap.size W=>pF.trans (y.below.mono (show w.heap.size<=W.heap.size by omega)));have SATW:=Xa satW.aC
 have LATW:=Xa LatW;have GATW:=Xa GatW;have HL:=Xa hL;have rG:=hV (Xb.refl _ _);simp only[Xb.refl] at rG;have tA:w.heap.size<=W.heap.size:=by omega
 clear hW rX pF rF sat satW Lat LatW Gat GatW sok hL;obtain⟨⟨qA,qcap,ql⟩,⟨pA,pcap,pl⟩⟩:=s;obtain⟨LA,Lcap,Ll⟩:=L;obtain⟨GA,Gcap,Gl⟩:=G;simp only at*;have tB:ql.length<=qcap:=SATW.out.1;have tC:qcap<=9223372036854775807:=SATW.out.2.1;have tD:Ll.length<=Lcap:=LATW.out.1;have tG:Lcap<=9223372036854775807:=LATW.out.2.1;have tH:Gl.length<=Gcap:=GATW.out.1;have tI:Gcap<=9223372036854775807:=GATW.out.2.1;obtain⟨Q,hQ⟩:∃Q,Q=ql.map Xn.pl:=⟨_,rfl⟩
 rw[<-hQ] at KF HL ⊢;have HQ:=Xa hQ;have hZ:=Xa (show Q.length=ql.length by rw[hQ,List.length_map]);have rH:=Xa qL;rw[qL] at pG ⊢;clear hQ qL;go_enter Tryz.func150,Tryz.ntmps150;go_upto_region 1 with fail;rw[<-HW.out];go_wp2_with (go_at_call 195;refine KL.out.mono ?_;rintro e w' ⟨rfl,y,rfl⟩;have tJ:=hV y)
 clear rG;go_loopw [8,27] (λv8 v wr=>∃k:Nat,v=.int .i64 k/\k<=ql.length/\v8=.int .i64 (Xam (Q.take k))/\Xam (Q.take k)<=k/\∃x:Xb W.heap.size W,wr=x.val) (λ_ v _=>ql.length-(intOf v).toNat)
 case atStart=>exact⟨0,rfl,Nat.zero_le _,rfl,Nat.zero_le _,y,rfl⟩
 case round=>
  obtain⟨k,rfl,hk,rfl,pH,x,rfl⟩:=hrel;by_cases pB:k<ql.length
  ·obtain⟨b,off,hA,hb,hC⟩:=SATW.out.2.2 (show 0<ql.length by omega);simp only at hA;subst hA;obtain⟨q,hx⟩:∃q,ql[k]? =some q:=⟨_,lgE pB⟩
   have he:=Xn.elem hx hb hC x;have hK:Q[k]? =some q.pl:=by rw[HQ.out,List.getElem?_map,hx];rfl
   have hP:=Xgz hK;rw[show q.pl.link=q.link from rfl] at hP;obtain⟨m,hm⟩:∃m,m=Xam (Q.take k):=⟨_,rfl⟩
   rw[<-hm] at hP pH ⊢;have pJ:=Xa hP;obtain⟨Y,hY,pT,hI,hO⟩:=bxcu x.val q;have pK:=Xn.boxed hO (by omega) (Xb.refl Y.heap.size Y);simp only[Xb.refl] at pK;have rI:=Xa (show Below W.heap.size W Y from x.below.trans (hI.mono x.size));have HY:=Xa hY;clear hC hx hK hP hm pT hI hO hY;by_cases hG:q.link=1
   ·have pZ:(q.link==1)=true:=by simp[hG]
    have HV:=Xa (show Xam (Q.take (k+1))=m+1 by rw[pJ.out,if_pos hG]);clear hG;go_upto_region 7 with fail;rw[<-HY.out];go_wp2_with fail;exact⟨⟨k+1,by go_num,by omega,by rw[HV.out];go_num,by rw[HV.out];omega,⟨Y,rI.out⟩,rfl⟩,by simp[intOf];omega⟩
   ·have pZ:(q.link==1)=false:=by simp[hG]
    have HV:=Xa (show Xam (Q.take (k+1))=m by rw[pJ.out,if_neg hG]);clear hG;go_upto_region 7 with fail;rw[<-HY.out];go_wp2_with fail;exact⟨⟨k+1,by go_num,by omega,by rw[HV.out],by rw[HV.out];omega,⟨Y,rI.out⟩,rfl⟩,by simp[intOf];omega⟩
  ·have qN:=Xa (show Xam (Q.take k)=Xam Q by rw[List.take_of_length_le (by have:=hZ.out;omega)]);rw[qN.out] at pH;obtain⟨m,hm⟩:∃m,m=Xam Q:=⟨_,rfl⟩
   rw[qN.out,<-hm];rw[<-hm] at pH;have HM:=Xa hm;clear hm qN;have rJ:=hV x;by_cases qF:Gl.length=m
   ·have pU:XI Q Ll Gl=if (Ll.all Xah&&Gl.all Xah)=true then(Qb Q Ll Gl Q.length,0) else([],2):=by rw[XI,if_pos (by rw[qF,HM.out])]
    subst qF;cases pI:Ll.all Xah
    ·have HE:=Xa (show XI Q Ll Gl=([],2) by rw[pU,pI];rfl);rw[pI] at pG;clear pU;go_wp2_with (go_at_call 95;refine(pG.out x).mono ?_;rintro e w' ⟨rfl,z,rfl⟩)
     go_ret2;exact Q8.no HE.out (HB.out z)
    cases pV:Gl.all Xah
    ·have HE:=Xa (show XI Q Ll Gl=([],2) by rw[pU,pI,pV];rfl);rw[pI] at pG;rw[pV] at pY;clear pU
     go_wp2_with (first
      |(go_at_call 95;refine(pY.out z).mono ?_;rintro e w' ⟨rfl,z2,rfl⟩)
      |(go_at_call 95;refine(pG.out x).mono ?_;rintro e w' ⟨rfl,z,rfl⟩))
     go_ret2;exact Q8.no HE.out (HB.out z2)
    have HE:=Xa (show XI Q Ll Gl=(Qb Q Ll Gl Q.length,0) by rw[pU,pI,pV];rfl);rw[pI] at pG;rw[pV] at pY;have rK:=Xa (Xbc pI);have qO:=Xa (Xbc pV);clear pU pI pV
    go_upto_region 15 with (first
     |(go_at_call 95;refine(pY.out z).mono ?_;rintro e w' ⟨rfl,z2,rfl⟩)
     |(go_at_call 95;refine(pG.out x).mono ?_;rintro e w' ⟨rfl,z,rfl⟩))
    have rY:=hV z2;have rZ:=Xa (λ(k:Nat) (q:XW) (h1:Q[k]? =some q) (h2:q.link=1)=>HM.out▸XuO h1 h2);have sA:ql.length<=60:=qM
    have qG:=Xa (λ(q:XW) (hq:q∈Q)=>by
     obtain⟨i,hi⟩:=List.getElem?_of_mem hq
     exact Xz.1 (HL.out.name i q hi).2.2:∀q∈Q,0<=q.aL/\q.aL<=2147483648)
    have tK:=Xa (Xdo qG.out qO.out);have sB:=Xa (Xdn qG.out rK.out qO.out);go_upto_region 16 with (go_at_call 198;refine(KO.out z2).mono ?_;rintro e w1 ⟨⟨rA,rc,rl⟩,rfl,qP,qB,pF⟩)
    have hlen:rl.length=ql.length:=by rw[qP];simp
    try rw[hlen]
    have sC:=Xa qP;have qQ:=Xa hlen;have qR:Below W.heap.size W w1:=z2.below.trans (pF.mono z2.size);have sD:=hV ⟨w1,qR⟩;simp only at sD;have qS:=Xa qB;have pL:=Xa qR;clear qP hlen qB pF qR rY;rcases Nat.eq_zero_or_pos ql.length with h0|h0
    ·have sE:=Xa (show XI Q Ll Gl=([],0) by
      have:Q=[]:=List.eq_nil_of_length_eq_zero (by rw[hZ.out,h0])
      rw[HE.out,this];rfl)
     have h1:((ql.length:Int)==0)=true:=by simp[h0]
     clear h0;go_wp2_with fail;go_ret2;exact Q8.no sE.out (HB.out ⟨w1,pL.out⟩)
    have h1:((ql.length:Int)==0)=false:=beq_false_of_ne (by omega);have h2:¬(ql.length:Int)=0:=by omega
    have rL:=Xa (run_make_row' (P:=Tryz.prog) 30 3 (.int .i64 0) 8 Tryz.underlying30 Xql rfl .i64 .i64 ql.length (by omega) (by omega) w1);have pH:=rL.out;have pM:=Xnx w1 ql.length (by omega);have qH:Below w1.heap.size w1 (w1.alloc (.cells (madeCells #[.int .i64 0] ql.length) 3)):=brf.alloc nr _;generalize w1.alloc (.cells (madeCells #[.int .i64 0] ql.length) 3)=V at pH pM qH;have qT:=Xa pM;have sF:=Xa qH;have sG:=hV ⟨V,pL.out.trans (qH.mono pL.out.size)⟩;simp only at sG;have pN:=Xa pL.out.size;clear pM qH rL;go_upto_region 21 with fail
    clear pH;go_wp2_with fail;go_loopw [14,76] (λv14 v wr=>∃k:Nat,v=.int .i64 k/\k<=ql.length/\v14=.int .i64 (Xam (Q.take k))/\Xam (Q.take k)<=Gl.length/\Hid (YW wr w1.heap.size ql.length (Xay Q Gl k))/\Hid (Below w1.heap.size w1 wr)) (λ_ v _=>ql.length-(intOf v).toNat)
    case atStart=>exact⟨0,rfl,Nat.zero_le _,rfl,Nat.zero_le _,Xa (by rw[show Xay Q Gl 0=List.replicate Q.length 0 from rfl,hZ.out];exact qT.out),sF⟩
    case round=>
     obtain⟨k,rfl,hk,rfl,pH,hJ,hR⟩:=hrel;have hU:Below W.heap.size W wr:=pL.out.trans (hR.out.mono pN.out);have qU:=hV ⟨wr,hU⟩;simp only at qU;by_cases pB:k<ql.length
     ·obtain⟨b,off,hA,hb,hC⟩:=SATW.out.2.2 (show 0<ql.length by omega);simp only at hA;subst hA;obtain⟨q,hx⟩:∃q,ql[k]? =some q:=⟨_,lgE pB⟩
      have he:=Xn.elem hx hb hC ⟨wr,hU⟩;simp only at he;have hK:Q[k]? =some q.pl:=by rw[HQ.out,List.getElem?_map,hx];rfl
      have hP:=Xgz hK;have hM:=XeW (G:=Gl) hK;have qV:=qG.out q.pl (lmg hK);have pW:=rZ.out k q.pl hK;rw[show q.pl.link=q.link from rfl] at hP hM pW;rw[show q.pl.aL=q.aL from rfl] at hM qV;obtain⟨m,hm⟩:∃m,m=Xam (Q.take k):=⟨_,rfl⟩
      rw[<-hm] at hP pH hM pW ⊢;have pJ:=Xa hP;have pO:=Xa hM;obtain⟨Y,hY,pT,hI,hO⟩:=bxcu wr q;have pK:=λy:Xb Y.heap.size Y=>Xn.boxed hO (by omega) y;have pC:=pK (Xb.refl Y.heap.size Y);simp only[Xb.refl] at pC;have pP:Below W.heap.size W Y:=hU.trans (hI.mono hU.size);have pQ:Below w1.heap.size w1 Y:=hR.out.trans (hI.mono hR.out.size);have hE:=λy:Xb Y.heap.size Y=>(hJ.out.below hJ.out.lt hI).below (Nat.lt_of_lt_of_le hJ.out.lt hI.size) y.below
      have sH:=Xa (XbZ Q Gl k);have HY:=Xa hY;have qW:=Xa (hJ.out.below hJ.out.lt hI);have pR:=Xa pQ;have sJ:(0:Int)<=(k:Int)/\(k:Int)<(ql.length:Int):=by omega
      by_cases hG:q.link=1
      ·have pZ:(q.link==1)=true:=by simp[hG]
       have HV:=Xa (show Xam (Q.take (k+1))=m+1 by rw[pJ.out,if_pos hG]);have HP:=Xa (show Xay Q Gl (k+1)=(Xay Q Gl k).set k (Gl.getD m 0+q.aL) by rw[pO.out,if_pos hG]);have sK:m<Gl.length:=pW hG;obtain⟨n,hn⟩:∃n,Gl[m]? =some n:=⟨_,lgE sK⟩
       have rM:Gl.getD m 0=n:=by rw[List.getD_eq_getElem?_getD,hn];rfl
       have rN:=qO.out.get (by omega) m;rw[rM] at HP rN;obtain⟨b2,off2,qC,qI,hD⟩:=GATW.out.2.2 (show 0<Gl.length by omega);simp only at qC;subst qC;have sL:=λy:Xb Y.heap.size Y=>(Xb.cell (x:=⟨y.val,pP.trans (y.below.mono pP.size)⟩) (hD m n hn 0 _ rfl) qI)
       simp only[Nat.mul_one,Nat.add_zero] at sL;have tL:(0:Int)<=(m:Int)/\(m:Int)<(Gl.length:Int):=by omega
       have hold:∀y:Xb Y.heap.size Y,∃v,y.val.cell? ⟨w1.heap.size,k,none⟩=some (.int .i64 v):=λy=>⟨_,(hE y).get (lgE (show k<(Xay Q Gl k).length by rw[sH.out,hZ.out];exact pB))⟩
       have pD:∀(y:Xb Y.heap.size Y) (i:Nat),y.val.frozen? ⟨w1.heap.size,i,none⟩=false:=λy i=>(hE y).frozen i;have pS:=Xa hE;clear hG hC hD hx hK hP hM hm pT hI hO hY pW rM hn hE pJ pO pQ;go_upto_region 26 with fail;rw[<-HY.out,show Y=(Xb.refl Y.heap.size Y).val from rfl];refine QM (Xb.refl Y.heap.size Y) 10 (by kernel_rfl) (by kernel_rfl) ?_;simp only[List.take_succ_cons,List.take_zero,List.drop_succ_cons,List.drop_zero]
       repeat (go_big_quiet_step (fail))
       refine wpQuiet_nil ?_;intro z;obtain⟨v,hv⟩:=hold z;have rO:=pD z;go_wp2;exact⟨⟨k+1,by go_num,by omega,by rw[HV.out];go_num,by rw[HV.out];omega,Xa (by rw[HP.out];exact(pS.out z).set k _),Xa ((pR.out.trans (z.below.mono pR.out.size)).setCell nr _)⟩,by simp[intOf];omega⟩
      ·have pZ:(q.link==1)=false:=by simp[hG]
       have HV:=Xa (show Xam (Q.take (k+1))=m by rw[pJ.out,if_neg hG]);have HP:=Xa (show Xay Q Gl (k+1)=Xay Q Gl k by rw[pO.out,if_neg hG]);clear hG hC hx hK hP hM hm pT hI hO hY pW hE pJ pO pQ;go_upto_region 25 with fail;rw[<-HY.out];go_wp2_with fail;exact⟨⟨k+1,by go_num,by omega,by rw[HV.out],by rw[HV.out];omega,Xa (by rw[HP.out];exact qW.out),pR⟩,by simp[intOf];omega⟩
     ·obtain rfl:k=ql.length:=by omega
      have qD:YW wr w1.heap.size ql.length (Qb Q Ll Gl 0):=by
       have:=hJ.out;rw[<-hZ.out] at this ⊢;exact this
      have qX:=Xa qD;clear qD hJ;have sM:=Xa hR.out;clear hR;go_wp2_with fail;generalize wr=V0 at*;go_loopw [99] (λv wr=>∃k:Nat,v=.int .i64 k/\k<=ql.length/\Hid (YW wr w1.heap.size ql.length (Qb Q Ll Gl k))/\Hid (Below w1.heap.size w1 wr)) (λv _=>ql.length-(intOf v).toNat)
      case atStart=>exact⟨0,rfl,Nat.zero_le _,qX,sM⟩
      case round=>
       obtain⟨k,rfl,hk,hJ,hR⟩:=hrel;have hU:Below W.heap.size W wr:=pL.out.trans (hR.out.mono pN.out);have qU:=hV ⟨wr,hU⟩;simp only at qU;by_cases pB:k<ql.length
       ·obtain⟨b,off,hA,hb,hC⟩:=SATW.out.2.2 (show 0<ql.length by omega);simp only at hA;subst hA;obtain⟨q,hx⟩:∃q,ql[k]? =some q:=⟨_,lgE pB⟩
        have he:=Xn.elem hx hb hC ⟨wr,hU⟩;simp only at he;obtain⟨b3,off3,rP,tM,hH⟩:=(qS.out.below (hR.out)).slAt.2.2 (show 0<rl.length by rw[qQ.out];omega);simp only at rP hH;subst rP;have sN:=hH k (k:Int) (by rw[sC.out];simp[XiI,pB]) 0 _ rfl;simp only[Nat.mul_one,Nat.add_zero] at sN;have hK:Q[k]? =some q.pl:=by rw[HQ.out,List.getElem?_map,hx];rfl
        have hM:=XeV (L:=Ll) (G:=Gl) hK;have qV:=qG.out q.pl (lmg hK);have hN:=HL.out.link k q.pl hK;have qJ:=sB.out k;rw[show q.pl.link=q.link from rfl] at hM hN;rw[show q.pl.aL=q.aL from rfl] at qV;rw[show q.pl.after=q.after from rfl] at hN;obtain⟨T,hT⟩:∃T,T=Qb Q Ll Gl k:=⟨_,rfl⟩
        rw[<-hT] at hM qJ hJ;have qY:=Xa (show T.length=ql.length by rw[hT,Qs,hZ.out]);obtain⟨Y,hY,pT,hI,hO⟩:=bxcu wr q;have pK:=λy:Xb Y.heap.size Y=>Xn.boxed hO (by omega) y;have pC:=pK (Xb.refl Y.heap.size Y);simp only[Xb.refl] at pC;have pP:Below W.heap.size W Y:=hU.trans (hI.mono hU.size);have pQ:Below w1.heap.size w1 Y:=hR.out.trans (hI.mono hR.out.size);have hE:=λy:Xb Y.heap.size Y=>(hJ.out.below hJ.out.lt hI).below (Nat.lt_of_lt_of_le hJ.out.lt hI.size) y.below
        have qZ:=hV ⟨Y,pP⟩;simp only at qZ;have HY:=Xa hY;have qW:=Xa (hJ.out.below hJ.out.lt hI);have pR:=Xa pQ;have sJ:(0:Int)<=(k:Int)/\(k:Int)<(ql.length:Int):=by omega
        by_cases hG:q.link=1
        ·have pZ:(q.link==1)=true:=by simp[hG]
         have HP:=Xa (show Qb Q Ll Gl (k+1)=T by rw[hM,if_pos hG]);clear hG hC hH hx hK hM pT hI hO hY hE pQ hN hT qJ;go_upto_region 33 with fail;rw[<-HY.out];go_wp2_with fail;exact⟨⟨k+1,by go_num,by omega,Xa (by rw[HP.out];exact qW.out),pR⟩,by simp[intOf];omega⟩
        ·have pZ:(q.link==1)=false:=by simp[hG]
         rcases hN with ⟨e1,-⟩|⟨sO,j,hj,tN⟩
         ·exact absurd e1 hG
         have rQ:j<ql.length:=by omega
         have rR:=Xa (Xc.first (KF.out q.after Y ⟨Y,pP⟩ rfl));rw[hj] at rR;obtain⟨n,hn⟩:∃n,T[j]? =some n:=⟨_,lgE (show j<T.length by rw[qY.out];exact rQ)⟩
         obtain⟨l,hl⟩:∃n,Ll[j]? =some n:=⟨_,lgE (show j<Ll.length by rw[rH.out];exact rQ)⟩
         have rS:T.getD j 0=n:=by rw[List.getD_eq_getElem?_getD,hn];rfl
         have rT:Ll.getD j 0=l:=by rw[List.getD_eq_getElem?_getD,hl];rfl
         have rN:=qJ n (lmg hn);have tO:=rK.out l (lmg hl);have hu:Xl6 Q Ll T q.pl=n+q.aL+(if q.link=2 then l else 0):=by
          show T.getD (XN Q q.after).toNat 0+q.aL+(if q.link=2 then Ll.getD (XN Q q.after).toNat 0 else 0)=_;rw[hj,Int.toNat_natCast,rS,rT]
         rw[if_neg hG,hu] at hM;have pO:=Xa hM;obtain⟨b2,off2,qC,qI,hD⟩:=LATW.out.2.2 (show 0<Ll.length by rw[rH.out];omega);simp only at qC;subst qC;have rU:=λy:Xb Y.heap.size Y=>(Xb.cell (x:=⟨y.val,pP.trans (y.below.mono pP.size)⟩) (hD j l hl 0 _ rfl) qI)
         have sP:=λy:Xb Y.heap.size Y=>(hE y).get hn;simp only[Nat.mul_one,Nat.add_zero] at rU;have hold:∀y:Xb Y.heap.size Y,∃v,y.val.cell? ⟨w1.heap.size,k,none⟩=some (.int .i64 v):=λy=>⟨_,(hE y).get (lgE (show k<T.length by rw[qY.out];exact pB))⟩
         have pD:∀(y:Xb Y.heap.size Y) (i:Nat),y.val.frozen? ⟨w1.heap.size,i,none⟩=false:=λy i=>(hE y).frozen i;have tP:(0:Int)<=(j:Int)/\(j:Int)<(ql.length:Int):=by omega
         have pS:=Xa hE;have sQ:=Xa hO;have sR:=Xa (λ(X:World) (hX:Below W.heap.size W X)=>(hX.cell (p:=⟨b2,off2+(j*1+0),none⟩) qI).trans (hD j l hl 0 _ rfl));have tQ:w1.heap.size<wr.heap.size:=hJ.out.lt;clear hG hC hD hH hx hK hM hI hO hY rS rT hn hl hE pQ hj hu qJ hT;go_upto_region 33 with fail;rw[<-HY.out];go_upto_region 35 with (go_at_call 199;refine rR.out.mono ?_;rintro e w2 ⟨rfl,y2,rfl⟩)
         have rB:=pK y2;refine QM y2 10 (by kernel_rfl) (by kernel_rfl) ?_;simp only[List.take_succ_cons,List.take_zero,List.drop_succ_cons,List.drop_zero]
         repeat (go_big_quiet_step (fail))
         refine wpQuiet_nil ?_;intro z;obtain⟨v,hv⟩:=hold z;have rO:=pD z;go_upto_region 36 with fail;have qK:=Xa ((pS.out z).set k (n+q.aL));have qE:=Xa ((pR.out.trans (z.below.mono pR.out.size)).setCell (p:=⟨w1.heap.size,k,none⟩) nr (.int .i64 (n+q.aL)));obtain⟨X,hX⟩:∃X,X=z.val.setCell ⟨w1.heap.size,k,none⟩ (.int .i64 (n+q.aL)):=⟨_,rfl⟩
         have rC:X.heap[wr.heap.size]? =some (.cells #[.string q.name,.string q.after,.int .i64 q.link,.int .i64 q.aL,.slice q.aD.A q.aD.l.length q.aD.cap,.int .i64 q.crew,.int .i64 q.power] 70):=by
          rw[hX,RowKit.Below.heap_setCell _ _ _ _ (show wr.heap.size≠w1.heap.size by omega)];exact(z.below.block _ (by omega)).trans sQ.out
         rw[<-hX] at qK qE ⊢;have sS:wr.heap.size<X.heap.size:=(agS rC).1;have rJ:=λx:Xb X.heap.size X=>Xn.boxed rC sS x;have rD:=rJ (Xb.refl X.heap.size X);simp only[Xb.refl] at rD;have rV:Below W.heap.size W X:=pL.out.trans (qE.out.mono pN.out);clear hX rC pK pC rB hv rO hold pD rU sP;by_cases pX:q.link=2
         ·have sT:(q.link==2)=true:=by simp[pX]
          have HP:=Xa (show Qb Q Ll Gl (k+1)=(T.set k (n+q.aL)).set k (n+q.aL+l) by rw[pO.out,if_pos pX,List.set_set]);have pE:=λx:Xb X.heap.size X=>qK.out.below qK.out.lt x.below;have rW:(T.set k (n+q.aL))[k]? =some (n+q.aL):=by rw[List.getElem?_set_self (by rw[qY.out];exact pB)]
          have sU:=λx:Xb X.heap.size X=>(pE x).get rW;have sV:∀(x:Xb X.heap.size X) (i:Nat),x.val.frozen? ⟨w1.heap.size,i,none⟩=false:=λx i=>(pE x).frozen i;have sW:=λx:Xb X.heap.size X=>sR.out x.val (rV.trans (x.below.mono rV.size));simp only[Nat.mul_one,Nat.add_zero] at sW;have rE:=Xa pE;clear pX rW pE;go_upto_region 37 with fail;refine XH X.heap.size 10 (by kernel_rfl) (by kernel_rfl) ?_;simp only[List.take_succ_cons,List.take_zero,List.drop_succ_cons,List.drop_zero]
          repeat (go_big_quiet_step (fail))
          refine wpQuiet_nil ?_;intro x;have tR:=sU x;have sX:=sV x;go_wp2;exact⟨⟨k+1,by go_num,by omega,Xa (by rw[HP.out];exact(rE.out x).set k _),Xa ((qE.out.trans (x.below.mono qE.out.size)).setCell nr _)⟩,by simp[intOf];omega⟩
         ·have sT:(q.link==2)=false:=by simp[pX]
          have HP:=Xa (show Qb Q Ll Gl (k+1)=T.set k (n+q.aL) by rw[pO.out,if_neg pX,Int.add_zero]);clear pX;go_wp2_with fail;exact⟨⟨k+1,by go_num,by omega,Xa (by rw[HP.out];exact qK.out),qE⟩,by simp[intOf];omega⟩
       ·obtain rfl:k=ql.length:=by omega
        have sY:=Xa (HB.out ⟨wr,hU⟩);have sZ:=Xa hJ.out;clear hJ;go_wp2_with fail;go_ret2;refine⟨sY.out,⟨some ⟨w1.heap.size,0,none⟩,ql.length,Qb Q Ll Gl Q.length⟩,?_,by rw[HE.out],Or.inr ⟨_,rfl,?_,?_⟩⟩
        ·rw[HE.out];show Ending.returned _=Ending.returned (.tuple #[.slice _ (Qb Q Ll Gl Q.length).length _,_]);rw[Qs,hZ.out];rfl
        ·show 0<(Qb Q Ll Gl Q.length).length;rw[Qs,hZ.out];exact h0
        ·rw[hZ.out];exact sZ.out
   ·have pW:((Gl.length:Int) !=(m:Int))=true:=by
     have h1:¬(Gl.length:Int)=(m:Int):=by omega
     simpa using h1
    have HE:=Xa (show XI Q Ll Gl=([],3) by rw[XI,if_neg (by rw[<-HM.out];exact qF)]);clear qF;go_wp2_with fail;go_ret2;exact Q8.no HE.out (HB.out x)
end Go.Proofs.YtdcahhbipeaggaaGreatDoor
