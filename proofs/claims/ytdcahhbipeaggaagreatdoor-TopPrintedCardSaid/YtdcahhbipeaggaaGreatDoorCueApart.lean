/- Lemmas for TopPrinted: CueApart. -/
import Derived.Test.YtdcahhbipeaggaaGreatDoorCueRight
import Derived.DeepKeys4
set_option maxRecDepth 100000
set_option maxHeartbeats 16000000
namespace Go.Proofs.YtdcahhbipeaggaaGreatDoor
open Go.RowKit Go.Maps
theorem XfN:Keyed Tryz.prog 73:=Keyed.of_law (deep_law_laid (by kernel_rfl) (m:=2) (by omega) (of_decide_eq_true (by kernel_rfl)) (by kernel_rfl) (by rw[Tryz.underlying73]))
theorem Xp3{a b:ByteArray}(ha:a.size<=maxLen)(hb:b.size<=maxLen):∃l,keyOf Tryz.prog 73 (.agg #[.string a,.string b])=some l:=by
 have h1:Tryz.prog.keyType 73=true:=by kernel_rfl
 have h2:Tryz.prog.cellsOf 73=2:=by kernel_rfl
 have h3:Tryz.prog.cellsOf 9=1:=by kernel_rfl
 have h4:0<Tryz.prog.types.size:=of_decide_eq_true (by kernel_rfl);obtain⟨m,hm⟩:∃m,Tryz.prog.types.size=m+1:=⟨Tryz.prog.types.size-1,by omega⟩
 have h5:Tryz.prog.keyLits (m+1+1) 73 [.string a,.string b]=some [.string a.data.toList,.string b.data.toList]:=by
  simp[Program.keyLits,Tryz.underlying73,Tryz.underlying9,h2,h3,List.range,List.range.loop,ha,hb]
 exact⟨.string (keyBytes [.string a.data.toList,.string b.data.toList]),by simp[keyOf,Tryz.underlying73,hm,h1,Value.formed,h2,Value.cells,h5]⟩
def Xak(s t:ByteArray×ByteArray):Bool:=Xm s.1 t.1&&Xm s.2 t.2
theorem Xfz{s t:ByteArray×ByteArray}:Xak s t=true↔s=t:=by
 simp only[Xak,bae,Qq];constructor
 ·rintro⟨h1,h2⟩;exact Prod.ext h1 h2
 ·rintro rfl;exact⟨rfl,rfl⟩
def JN(w:World)(b:Nat)(xs:List (ByteArray×ByteArray)):Prop:=
 ∃D:DataW Unit,w.ownsMap Tryz.prog 73 (unitElem (H:=Unit)) b xs.length D/\∀p l,keyOf Tryz.prog 73 (Z3 p)=some l->Maps.has D l=xs.any (Xak p)
theorem JN.lt{w:World}{b:Nat}{xs:List (ByteArray×ByteArray)}(h:JN w b xs):b<w.heap.size:=by obtain⟨D,h1,_⟩:=h;exact h1.lt
theorem JN.below{w w':World}{b:Nat}{xs:List (ByteArray×ByteArray)}(h:JN w b xs)(hb:Below w.heap.size w w'):JN w' b xs:=by
 have hl:=h.lt;obtain⟨D,⟨es,clock,h1,h2⟩,h3⟩:=h;exact⟨D,⟨es,clock,(hb.block b hl).trans h1,h2⟩,h3⟩
theorem JN.made(w:World):JN (w.alloc (.map #[] 0)) w.heap.size []:=⟨.map [],World.ownsMap_made _ _ _ _,λ_ _ _=>rfl⟩
theorem JN.put{w':World}{b:Nat}{xs:List (ByteArray×ByteArray)}{s:ByteArray×ByteArray}{D:DataW Unit}{ls:Lit}(h3:∀p l,keyOf Tryz.prog 73 (Z3 p)=some l->Maps.has D l=xs.any (Xak p))(hD:IsMap D)
 (hs:keyOf Tryz.prog 73 (Z3 s)=some ls) (h1:w'.ownsMap Tryz.prog 73 (unitElem (H:=Unit)) b (xs.length+1) (D.put ls (.agg []))):JN w' b (s::xs):=by
 refine⟨_,h1,λp l hp=> ?_⟩;rw[List.any_cons];by_cases e:l=ls
 ·subst e;have hv:=XfN.inj hp hs;have:p=s:=by
   obtain⟨a,b⟩:=p;obtain⟨c,d⟩:=s;simp only[Z3,Value.agg.injEq,Array.mk.injEq,List.cons.injEq,Value.string.injEq,and_true] at hv;exact Prod.ext hv.1 hv.2
  rw[has_put_same hD (XfN.key hp),Xfz.2 this];rfl
 ·rw[has_put_other e,h3 p l hp];have:Xak p s=false:=by
   rw[<-Bool.not_eq_true,Xfz];rintro rfl;rw[hp] at hs;exact e (Option.some.inj hs)
  rw[this];rfl
theorem JN.store{w:World}{b:Nat}{xs:List (ByteArray×ByteArray)}(h:JN w b xs)(hn:xs.length<maxLen)(s:ByteArray×ByteArray)(h1:s.1.size<=maxLen)(h2:s.2.size<=maxLen):
 ∃w',(Instr.mapUpdate 156 (.map (some b)) (Z3 s) (.agg #[])).run Tryz.prog w=.ok () w'/\JN w' b (s::xs)/\w.grownBy w' (some b):=by
 obtain⟨D,h3,h4⟩:=h;obtain⟨l,hl⟩:=Xp3 h1 h2;obtain⟨w',hr,ho,ht⟩:=h3.store XfN Tryz.underlying156 hn (key:=Z3 s) (val:=.agg #[]) hl unitElem_mk;exact⟨w',hr,JN.put h4 h3.isMap hl ho,ht.grown⟩
theorem JN.look{w:World}{b:Nat}{xs:List (ByteArray×ByteArray)}(h:JN w b xs)(s:ByteArray×ByteArray)(h1:s.1.size<=maxLen)(h2:s.2.size<=maxLen):
 (Instr.lookup 156 (.map (some b)) (Z3 s) true).run Tryz.prog w=.ok (.tuple #[.agg #[],.bool (xs.any (Xak s))]) w:=by
 obtain⟨D,h3,h4⟩:=h;obtain⟨l,hl⟩:=Xp3 h1 h2;obtain⟨v,ps,hr,hv⟩:=h3.look_ok XfN Tryz.underlying156 (show(zeroValue 157).run Tryz.prog w=.ok (.agg #[]) w by kernel_rfl) (zd:=.agg []) unitElem_mk (key:=Z3 s) hl;obtain⟨rfl,_⟩:=unitElem_inv hv;rw[hr,h4 s l hl]
def QR(x:ByteArray×ByteArray):ByteArray×ByteArray:=if (!Op.bytesLess x.1.toList x.2.toList&& !x.1.toList==x.2.toList)=true then(x.2,x.1) else x
def Xc6(C:List XW)(nm:ByteArray):Bool:=C.any λq=>Xm q.name nm
def XeX(C:List XW)(l:List (ByteArray×ByteArray))(i:Nat)(x:ByteArray×ByteArray):Bool:=
 !((l.take i).map QR).any (Xak (QR x))&& !Xm (QR x).1 (QR x).2&&Xc6 C (QR x).1&&Xc6 C (QR x).2
theorem XoU{x:ByteArray×ByteArray}(h1:x.1.size<=maxLen)(h2:x.2.size<=maxLen):(QR x).1.size<=maxLen/\(QR x).2.size<=maxLen:=by
 unfold QR;split
 ·exact⟨h2,h1⟩
 ·exact⟨h1,h2⟩
def XbQ(c:Xp):Bool:=decide (c.apart.length<=1000)&&X8 (XeX c.aC c.apart) c.apart
theorem Xmq(s:Xq)(sok:s.ok)(w:World)(B:Nat)(hB:B<=w.heap.size)(sat:Xq.at_ w B s):
 Calls Tryz.prog 25 #[.agg #[.slice s.aC.A s.aC.l.length s.aC.cap,.slice s.apart.A s.apart.l.length s.apart.cap]] w (Xc w (.bool (XbQ s.pl))):=by
 obtain⟨W,hW,qE,pK,pU⟩:=bxsh w s;have hc:=λy:Xb W.heap.size W=>Xq.boxed pU (by omega) y;have pV:=bdo pK;have satW:=sat.to (pK.mono hB) (show B<=W.heap.size by omega);have HW:=Xa hW;have pL:=Xa pV;have hN:=Xa satW;have qF:=Xa sok;have qG:=hc (Xb.refl _ _);simp only[Xb.refl] at qG;obtain⟨⟨cA,ccap,cl⟩,⟨A,cap,l⟩⟩:=s;simp only at*;have pW:Xq.pl ⟨⟨cA,ccap,cl⟩,⟨A,cap,l⟩⟩=⟨cl.map Xn.pl,l⟩:=rfl;rw[pW];obtain⟨C,hC⟩:∃C,C=cl.map Xn.pl:=⟨_,rfl⟩
 rw[<-hC];have hm:cap<=9223372036854775807:=satW.apart.2.1;have rC:l.length<=cap:=satW.apart.1;have qH:w.heap.size<W.heap.size:=by omega
 have hJ:=Xa (show ∀nm,decide (XcM cl nm<0)= !Xc6 C nm from λnm=>by
  have h1:=Zh (λq:Xn=>Xm q.name nm) cl;have h2:Xc6 C nm=cl.any λq=>Xm q.name nm:=by rw[Xc6,hC,List.any_map];rfl
  rw[h2,<-h1];show decide (idx _ _<0)=_;by_cases h:idx (λq:Xn=>Xm q.name nm) cl<0
  ·rw[decide_eq_true h,decide_eq_false (by omega)];rfl
  ·rw[decide_eq_false h,decide_eq_true (by omega)];rfl)
 have qI:=Xa satW.aC;have qJ:=Xa satW.apart;have pM:=Xa sok.apart;clear hW qE pK pU pV sat satW sok hN qF hC pW;go_enter Tryz.func25,Tryz.ntmps25;go_upto_region 1 with fail;rw[<-HW.out];by_cases hlen:1000<(l.length:Int)
 ·go_wp2_with fail;go_ret;exact Xc.mk (congrArg Value.bool (by rw[XbQ,decide_eq_false (show ¬l.length<=1000 by omega)];rfl)) (pL.out (Xb.refl _ _))
 have hR:=Xa (JN.made W);have rD:= @run_makeMap Tryz.prog;have pA:Below W.heap.size W (W.alloc (.map #[] 0)):=brf.alloc nr _;have qK:=hc ⟨_,pA⟩;obtain⟨M,hM⟩:∃M,M=W.alloc (.map #[] 0):=⟨_,rfl⟩
 rw[<-hM] at hR pA;simp only[<-hM] at qK;have HM:=Xa hM;have qL:=Xa pA;clear hM pA;go_upto_region 4 with fail;rw[<-HM.out];go_wp2_with fail;go_loopw [16] (λv wr=>∃k:Nat,v=.int .i64 k/\k<=l.length/\Hid (YA (XeX C l) l k)/\Hid (JN wr W.heap.size ((l.take k).map QR).reverse)/\∃x:Xb W.heap.size W,wr=x.val) (λv _=>l.length-(intOf v).toNat)
 case atStart=>exact⟨0,rfl,Nat.zero_le _,YA.zero _ _,Xa (by simpa using hR.out),⟨M,qL.out⟩,rfl⟩
 case round=>
  obtain⟨k,rfl,hk,hT,hK,x,rfl⟩:=hrel;by_cases pX:k<l.length
  ·obtain⟨b,off,hA,hb,hL⟩:=qJ.out.2.2 (show 0<l.length by omega);simp only at hA;subst hA;have hx:l[k]? =some l[k]:=lgE pX;have hE:=pM.out l[k] (List.getElem_mem pX);have he:=λx:Xb W.heap.size W=>Xb0 hx hb hL x;obtain⟨⟨n1,n2⟩,hp⟩:∃p,p=l[k]:=⟨_,rfl⟩
   rw[<-hp] at hE he hx;simp only at hE he;have HX:=Xa hx;clear hL hx hp;obtain⟨Y,hY,pN,pO,hU⟩:=boxed x.val (.cells #[.string n1,.string n2] 73);have qM:=Xi hU;have qN:=Xe hU;obtain⟨pb,pP⟩:∃pb,pb=x.val.heap.size:=⟨_,rfl⟩
   rw[<-pP] at pN pO hU qM qN;obtain⟨⟨p1,p2⟩,hp⟩:∃p,p=QR (n1,n2):=⟨_,rfl⟩
   have hP:=Xa (And.intro pO (And.intro pN hU));have HP:=Xa hp;have HY:=Xa hY;have hX:=Xa pP;clear hp hY pO pN hU pP;go_upto_region 7 with fail;rw[<-HY.out,<-hX.out];go_upto_if 24 with fail;go_cut [] (λwx=>∃z:Xb pb x.val,wx=z.val/\z.val.heap.size=pb+1/\z.val.heap[pb]? =some (.cells #[.string p1,.string p2] 73 (0,0)))
   case first=>
    have e1:=HP.out;unfold QR at e1;simp only at e1;cases qO:Op.bytesLess n1.toList n2.toList
    all_goals cases qP:(n1.toList==n2.toList)
    all_goals
     rw[qO,qP] at e1
     first|rw[if_pos (by decide)] at e1|rw[if_neg (by decide)] at e1
     simp only[Prod.mk.injEq] at e1;go_wp2_with fail;go_meet;rw[e1.1,e1.2]
    ·have qQ:=XR (c:=.string n2) (d:=.string n1) hP.out.2.2;exact⟨⟨_,(hP.out.1.setCell nr _).setCell nr _⟩,rfl,by simp[hP.out.2.1],qQ⟩
    all_goals exact⟨⟨Y,hP.out.1⟩,rfl,hP.out.2.1,hP.out.2.2⟩
   case rest=>
    obtain⟨z,rfl,qR,pQ⟩:=hcut;have qS:=x.size;have pB:p1.size<=maxLen/\p2.size<=maxLen:=by
     have:=XoU (x:=(n1,n2)) hE.1 hE.2
     rwa [<-HP.out] at this
    have hD:JN z.val W.heap.size ((l.take k).map QR).reverse:=hK.out.below (by rw[<-hX.out];exact z.below);have pY:=hD.look (p1,p2) pB.1 pB.2;simp only[Z3] at pY;obtain⟨sn,pC⟩:∃sn,sn=((l.take k).map QR).reverse.any (Xak (p1,p2)):=⟨_,rfl⟩
    rw[<-pC] at pY;obtain⟨V,hV,rE,pD,qT⟩:=boxed z.val (.cells #[] 157);have hO:Below W.heap.size W V:=x.below.trans ((z.below.mono (by rw[hX.out];exact qS)).trans (pD.mono (by rw[qR,hX.out];omega)));have pE:=λy:Xb V.heap.size V=>Xi ((y.below.block pb (by omega)).trans ((pD.block pb (by omega)).trans pQ));have pF:=λy:Xb V.heap.size V=>hc ⟨y.val,hO.trans (y.below.mono hO.size)⟩;simp only at pF;have qU:=Xi pQ;have pR:=And.intro (pE (Xb.refl _ _)) (pF (Xb.refl _ _));simp only[Xb.refl] at pR;have hG:∀y:Xb V.heap.size V,JN y.val W.heap.size ((l.take k).map QR).reverse:=λy=>(hD.below pD).below y.below
    have hH:=hO.size;have KF:=Xa (λ(nm:ByteArray) (y:Xb V.heap.size V)=>Xc.after (x:=y) nr (XdG cA ccap cl nm y.val W.heap.size (Nat.le_trans hH y.size) (qI.out.to (hO.trans (y.below.mono hH)) nr)));have pG:=Xa (show ∀y:Xb V.heap.size V,Below w.heap.size w y.val from λy=>pL.out ⟨y.val,hO.trans (y.below.mono hH)⟩);have pH:=Xa (λ(hf:XeX C l k (n1,n2)=false)=>(show XbQ ⟨C,l⟩=false by rw[XbQ,YP HX.out hf,Bool.and_false]));have pZ:XeX C l k (n1,n2)=(!sn&& !Xm p1 p2&&Xc6 C p1&&Xc6 C p2):=by
     rw[XeX,<-HP.out,pC,List.any_reverse]
    have d1:=hJ.out p1;have d2:=hJ.out p2;obtain⟨K1,qA⟩:∃K1,K1=XcM cl p1:=⟨_,rfl⟩
    obtain⟨K2,qB⟩:∃K2,K2=XcM cl p2:=⟨_,rfl⟩
    have hQ:=Xa (KF.out p1);have pS:=Xa (KF.out p2);rw[<-qA] at hQ d1;rw[<-qB] at pS d2;have qV:=Xa hG;have HV:=Xa hV;have qW:=Xa hO;have rF:=Xa pC;have hN:=Xa pZ;have qX:¬pb=W.heap.size:=by have:=hK.out.lt;rw[hX.out];omega
    clear hV hO pC pZ hG hD qA qB KF pQ qT pD;go_upto_region 10 with fail;rw[<-HV.out];cases sn
    case true=>
     go_wp2_with fail;go_ret;exact Xc.mk (congrArg Value.bool (pH.out (by rw[hN.out];rfl)).symm) (pG.out (Xb.refl _ _))
    cases qC:(p1.toList==p2.toList)
    case true=>
     go_wp2_with fail;go_ret;exact Xc.mk (congrArg Value.bool (pH.out (by rw[hN.out,Xm,qC];rfl)).symm) (pG.out (Xb.refl _ _))
    cases pI:Xc6 C p1
    ·rw[pI] at d1;have d1':K1<0:=by simpa using d1
     go_wp2_with (go_at_call 24;refine(hQ.out (Xb.refl _ _)).mono ?_;rintro e w' ⟨rfl,y,rfl⟩)
     go_ret;exact Xc.mk (congrArg Value.bool (pH.out (by rw[hN.out,pI,Bool.and_false];rfl)).symm) (pG.out _)
    rw[pI] at d1;have d1':¬K1<0:=by simpa using d1
    cases pJ:Xc6 C p2
    ·rw[pJ] at d2;have d2':K2<0:=by simpa using d2
     go_wp2_with (first|(go_at_call 24;refine(hQ.out (Xb.refl _ _)).mono ?_;rintro e w' ⟨rfl,y,rfl⟩;have qY:=And.intro (pE y) (pF y);clear hQ)|(go_at_call 24;refine(pS.out y).mono ?_;rintro e w' ⟨rfl,y2,rfl⟩))
     go_ret;exact Xc.mk (congrArg Value.bool (pH.out (by rw[hN.out,pJ,Bool.and_false])).symm) (pG.out _)
    rw[pJ] at d2;have d2':¬K2<0:=by simpa using d2
    go_upto_region 12 with (first|(go_at_call 24;refine(hQ.out (Xb.refl _ _)).mono ?_;rintro e w' ⟨rfl,y,rfl⟩;have qY:=And.intro (pE y) (pF y);clear hQ)|(go_at_call 24;refine(pS.out y).mono ?_;rintro e w' ⟨rfl,y2,rfl⟩))
    have qZ:=pE y2;have rA:((l.take k).map QR).reverse.length<maxLen:=by unfold maxLen;simp;omega
    obtain⟨N,pT,hI,qD⟩:=(qV.out y2).store rA (p1,p2) pB.1 pB.2;simp only[Z3] at pT;have hZ:=Xa hI;have rB:Hid (Below W.heap.size W N):=Xa ((qW.out.trans (y2.below.mono hH)).grown qD (Nat.le_trans hH y2.size) (λk e=>by cases e;exact Nat.le_refl _));clear hI qD;go_wp2
    exact⟨⟨k+1,by go_num,by omega,hT.out.next HX.out (by rw[hN.out,Xm,qC,pI,pJ];rfl),Xa (by
     rw[List.take_add_one,HX.out];simp only[Option.toList_some,List.map_append,List.map_cons,List.map_nil,List.reverse_append,List.reverse_cons,List.reverse_nil,List.nil_append,List.singleton_append];rw[<-HP.out]
     exact hZ.out),⟨N,rB.out⟩,rfl⟩,by simp[intOf];omega⟩
  ·go_wp2;go_ret;exact Xc.mk (congrArg Value.bool (by rw[XbQ,hT.out.all (show l.length<=k by omega),decide_eq_true (show l.length<=1000 by omega)];rfl)) (pL.out x)
end Go.Proofs.YtdcahhbipeaggaaGreatDoor
