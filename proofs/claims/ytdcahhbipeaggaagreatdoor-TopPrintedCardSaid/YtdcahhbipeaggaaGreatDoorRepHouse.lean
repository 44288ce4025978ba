/- Lemmas for TopPrinted: RepHouse. -/
import Derived.Test.YtdcahhbipeaggaaGreatDoorHouseLoads
import Derived.Test.YtdcahhbipeaggaaGreatDoorRepSheet
set_option maxRecDepth 100000
set_option maxHeartbeats 16000000
namespace Go.Proofs.YtdcahhbipeaggaaGreatDoor
open Go.RowKit
def Xd8(name:ByteArray)(aH:Int):List ZD:=[.str (Zg [104,111,117,115,101]),.str name,.num aH]
def Xdz(b:Bool):ByteArray:=if b=true then Zg [104,111,108,100,115] else Zg [115,108,105,112,115]
def Js(s:Xd):List ZD:=[.str (Zg [115,101,116]),.str s.name,.str (Zg [100,101,112,116,104]),.num s.depth,.str (Zg [119,101,105,103,104,116]),.num (X9 s),.str (Zg [105,109,98,97,108,97,110,99,101]),.num (XaM s),.str (Xdz (XiW s))]
def J7(r:Xt)(f:Int×Nat):List ZD:=[.str (Zg [98,101,97,109]),.str r.name,.str (Zg [98,101,97,114,115]),.frac f.1 f.2,.str (Zg [111,102]),.num r.most]
def Xbx(l:List Xd)(i:Nat):List UInt8:=match l[i]? with|some s=>Xaz (Js s)|none=>[]
def Zp(l:List Xd)(os:List Nat):List UInt8:=(os.map (Xbx l)).flatten
def XdN(rl:List Xt)(L:List (Int×Int))(i:Nat):List UInt8:=match rl[i]? with|some r=>Xaz (J7 r (fmk (Z7 rl L i) D0))|none=>[]
def ZX(rl:List Xt)(L:List (Int×Int))(k:Nat):List UInt8:=((List.range k).map (XdN rl L)).flatten
def XdK(h:Xf):Prop:=(∀s∈h.aA.l,Xih s<=67108864)/\∀x∈Zf h.aA.l,0<Xc7 h.aB.l x.1
open Classical in
noncomputable def XaT(h:Xf):List UInt8:=if XdK h then ZX h.aB.l (Zf h.aA.l) h.aB.l.length else []
theorem XbP{h:Xf}(hb:XdK h):XaT h=ZX h.aB.l (Zf h.aA.l) h.aB.l.length:=if_pos hb
theorem XcR{h:Xf}(hb:¬XdK h):XaT h=[]:=if_neg hb
noncomputable def Jh(h:Xf):List UInt8:=Xaz (Xd8 h.name h.aH)++Zp h.aA.l (ZJ (dep h.aA.l) h.aA.l.length)++XaT h
theorem Xjt{l:List Xd}{os:List Nat}{k i:Nat}{s:Xd}(h:os[k]? =some i)(hs:l[i]? =some s):Zp l (os.take (k+1))=Zp l (os.take k)++Xaz (Js s):=by
 have e:Xbx l i=Xaz (Js s):=by unfold Xbx;rw[hs]
 unfold Zp;rw[List.take_add_one,h,Option.toList_some,List.map_append,List.flatten_append,<-e];simp
theorem Xjf{rl:List Xt}{L:List (Int×Int)}{k:Nat}{r:Xt}(h:rl[k]? =some r):ZX rl L (k+1)=ZX rl L k++Xaz (J7 r (fmk (Z7 rl L k) D0)):=by
 have e:XdN rl L k=Xaz (J7 r (fmk (Z7 rl L k) D0)):=by unfold XdN;rw[h]
 unfold ZX;rw[List.range_succ,List.map_append,List.flatten_append,<-e];simp
theorem Xf1{n:ByteArray}{x:Int}(h1:n.size<=1000)(h2:I64 x):∀y∈Xd8 n x,y.ok:=λz hz=>by
 simp only[Xd8,List.mem_cons,List.not_mem_nil,or_false] at hz;rcases hz with rfl|rfl|rfl
 ·show(5:Nat)<=1000;decide
 ·exact h1
 ·exact h2
theorem Xg6{s:Xd}(h:X0 s=true):∀y∈Js s,y.ok:=λz hz=>by
 obtain⟨b1,b2,w1,w2,-⟩:=QE h;obtain⟨-,-,-,d1,d2⟩:=XhU h;have hn:XF s.name=true:=by
  simp only[X0,Ju,bae] at h;exact h.1.1.1.1.1.1.1.1.1
 have hs:=Xa4 hn;simp only[Js,List.mem_cons,List.not_mem_nil,or_false] at hz;rcases hz with rfl|rfl|rfl|rfl|rfl|rfl|rfl|rfl|rfl
 ·show(3:Nat)<=1000;decide
 ·show s.name.size<=1000;omega
 ·show(5:Nat)<=1000;decide
 ·show I64 s.depth;unfold I64;omega
 ·show(6:Nat)<=1000;decide
 ·show I64 (X9 s);unfold I64;omega
 ·show(9:Nat)<=1000;decide
 ·show I64 (XaM s);unfold I64;omega
 ·show(Xdz (XiW s)).size<=1000;unfold Xdz;split
  ·show(5:Nat)<=1000;decide
  ·show(5:Nat)<=1000;decide
theorem Xcv{l:List Xd}(h:∀s∈l,X0 s=true):∀os:List Nat,(Zp l os).length<=10000*os.length
 |[]=>Nat.le_refl _
 |i::os=>by
  have ih:=Xcv h os;have h1:(Xbx l i).length<=10000:=by
   unfold Xbx;split
   ·rename_i s hs
    have:=Xd7 (Xg6 (h s (lmg hs)));have h9:(Js s).length=9:=rfl;omega
   ·simp
  unfold Zp at ih ⊢;rw[List.map_cons,List.flatten_cons,List.length_append,List.length_cons];omega
theorem Xo7{l:List Xd}(h:∀s∈l,X0 s=true)(hs:∀s∈l,Xih s<=67108864):∀x∈Zf l,YS x=true:=λy hy=>by
 obtain⟨s,hm,rfl⟩:=List.mem_map.1 hy;obtain⟨⟨a,b⟩,⟨c,d⟩,⟨e,f⟩,g1,g2⟩:=XhU (h s hm);have h2:=hs s hm;have h3:Xih s=X9 s+s.aN+Yp s.aE.l:=rfl;simp only[YS,Xg,bae,decide_eq_true_eq];omega
theorem XoC{rl:List Xt}(h:Y6 rl=true):rl.length<=20/\∀r∈rl,Xal r=true:=by
 rw[Y6,bae,decide_eq_true_eq] at h;refine⟨h.1,λr hr=> ?_⟩;obtain⟨i,hi,e⟩:=List.getElem_of_mem hr;have:=XJ.1 h.2 i r (by rw[lgE hi,e]);rw[XbJ,bae] at this;exact this.1
theorem Xgh{r:Xt}(h:Xal r=true){f:Int×Nat}(hf:Xgn f.1 f.2):∀y∈J7 r f,y.ok:=λz hz=>by
 obtain⟨h1,-,-,-,h2,h3⟩:=Xcz.1 h;have hs:=Xa4 h1;simp only[J7,List.mem_cons,List.not_mem_nil,or_false] at hz;rcases hz with rfl|rfl|rfl|rfl|rfl|rfl
 ·show(4:Nat)<=1000;decide
 ·show r.name.size<=1000;omega
 ·show(5:Nat)<=1000;decide
 ·exact hf
 ·show(2:Nat)<=1000;decide
 ·show I64 r.most;unfold I64;omega
theorem Xqs{rl:List Xt}{L:List (Int×Int)}(hL:L.length<=20)(hf:∀x∈L,YS x=true)(k:Nat):Xgn (fmk (Z7 rl L k) D0).1 (fmk (Z7 rl L k) D0).2:=by
 refine XiB (by decide) (by decide) ?_;have h1:=XgS rl k L hf;have h2:L.length*(67108864*232792560)<=20*(67108864*232792560):=Nat.mul_le_mul hL nr;omega
theorem XeI{rl:List Xt}{L:List (Int×Int)}(hr:∀r∈rl,Xal r=true)(hL:L.length<=20)(hf:∀x∈L,YS x=true):∀k,(ZX rl L k).length<=10000*k
 |0=>Nat.le_refl _
 |k+1=>by
  have ih:=XeI hr hL hf k;have h1:(XdN rl L k).length<=10000:=by
   unfold XdN;split
   ·rename_i r hs
    have:=Xd7 (Xgh (hr r (lmg hs)) (Xqs (rl:=rl) hL hf k));have h9:(J7 r (fmk (Z7 rl L k) D0)).length=6:=rfl;omega
   ·simp
  unfold ZX at ih ⊢;rw[List.range_succ,List.map_append,List.flatten_append,List.length_append];simp only[List.map_cons,List.map_nil,List.flatten_cons,List.flatten_nil,List.append_nil];omega
theorem XfX(h:Xf)(qB:h.ok)(hh:Xv h=true)(rT:h.aA.l.length<20)(w:World)(ht:J9 w)(hU:Xf.at_ w w.heap.size h):
 Calls Tryz.prog 12 #[.agg #[.string h.name,.int .i64 h.aH,.slice h.aA.A h.aA.l.length h.aA.cap,.slice h.aB.A h.aB.l.length h.aB.cap]] w (Xc w (.tuple #[.string ⟨(Jh h).toArray⟩,.int .i64 0])):=by
 obtain⟨W,hW,rU,qC,rE⟩:∃V:World,w.alloc (.cells #[.string h.name,.int .i64 h.aH,.slice h.aA.A h.aA.l.length h.aA.cap,.slice h.aB.A h.aB.l.length h.aB.cap] 25)=V/\V.heap.size=w.heap.size+1/\Below w.heap.size w V/\V.heap[w.heap.size]? =some (.cells #[.string h.name,.int .i64 h.aH,.slice h.aA.A h.aA.l.length h.aA.cap,.slice h.aB.A h.aB.l.length h.aB.cap] 25 (0,0)):=by
  obtain⟨A,hA,pR,pS,pT⟩:=bxhs w h;exact⟨A,hA.symm,pR,pS,pT⟩
 have pM:=λy:Xb W.heap.size W=>Xf.boxed rE (by omega) y;have rF:=pM (Xb.refl _ _);simp only[Xb.refl] at rF;have hZ:Xf.at_ W W.heap.size h:=hU.to qC (by omega);have KO:=Xa (XoO h qB hh rT W W.heap.size nr hZ);have KL:=Xa (λ(y:World) (hy:Below W.heap.size W y)=>XiV h qB hh (by omega) y W.heap.size hy.size (hZ.to hy nr));have qD:=Xa (XfZ hh)
 have qE:=Xa (show XF h.name=true/\1<=h.aH/\h.aH<=1048576 from by
  rw[Xv,bae] at hh;have:=Zj.1 hh.1
  exact⟨this.1,this.2.1,this.2.2.1⟩)
 have rV:=Xa (Xey hh);have rW:=Xa qB;have qK:=Xa hZ;have rG:=Xa qC;have HT:=Xa (ht.below qC);obtain⟨O,hO⟩:∃O,O=ZJ (dep h.aA.l) h.aA.l.length:=⟨_,rfl⟩
 have rH:w.heap.size<=W.heap.size:=by omega
 obtain⟨RES,pH⟩:∃r,r=Jh h:=⟨_,rfl⟩
 rw[<-pH];have pI:=Xa pH;have rX:=Xa hO;have qL:=Xa (show O.length=h.aA.l.length by rw[hO,Xad]);have qM:=Xa (λ(i:Nat) (hi:i∈O)=>XkE (dep h.aA.l) (hO▸hi));have rY:=Xa (show Calls Tryz.prog 34 #[.agg #[.string h.name,.int .i64 h.aH,.slice h.aA.A h.aA.l.length h.aA.cap,.slice h.aB.A h.aB.l.length h.aB.cap]] W (λe w'=>∃A cap,e=.returned (.tuple #[.slice A h.aA.l.length cap,.int .i64 0])/\h.aA.l.length<=cap/\cap<=maxLen/\Below W.heap.size W w'/\(0<h.aA.l.length->∃g,A=some ⟨g,0,none⟩/\XbS w' g O)) by rw[hO];exact KO.out);have hm:h.aA.cap<=9223372036854775807:=hU.aA.2.1
 have sS:h.aA.l.length<=h.aA.cap:=hU.aA.1;have sT:h.aB.cap<=9223372036854775807:=hU.aB.2.1;have rZ:h.aB.l.length<=h.aB.cap:=hU.aB.1;clear rU rE hU hZ qB hh qC KO hO pH ht;obtain⟨hH,hC,⟨SA,scap,sl⟩,⟨RA,rcap,rl⟩⟩:=h;simp only at*;go_enter Tryz.func12,Tryz.ntmps12;go_upto_region 5 with (go_at_call 34;refine rY.out.mono ?_;rintro e w1 ⟨OA,oc,rfl,sA,sB,pN,hN⟩;have rI:=pM ⟨w1,pN⟩;simp only at rI)
 obtain⟨V,hV⟩:∃V,V=w1.alloc (.cells #[.pointer none,.slice none 0 0,.int .i64 0] 102):=⟨_,rfl⟩
 have pJ:QX w1 w1.heap.size [] V:=by rw[hV];exact BSt.fresh 102 [.int .i64 0] w1 w1 brf
 have rJ:=pM ⟨V,pN.trans (pJ.bel.mono pN.size)⟩;simp only at rJ;have pD:=Xa pN;have HN:=Xa hN;have qF:=Xa (HT.out.below pN);have qN:=Xa (QP (pJ.more (brf.alloc nr (.cells (([.str (Zg [104,111,117,115,101]),.str hH,.num hC]:List ZD).map ZD.val).toArray 20))) qF.out (g:=V.heap.size) _ (Xf1 (by have:=Xa4 qE.out.1;omega) (by unfold I64;have:=qE.out;omega)) (heap_alloc_new V _) (show(3:Nat)<=100 by decide) nzl);rw[List.nil_append] at qN;rw[<-hV];clear hV pJ pN hN rI rF;go_upto_region 7 with (go_at_call 35;refine qN.out.mono ?_;rintro e w2 ⟨rfl,st2,-⟩)
 have pU:=Xa st2;obtain⟨pA,hK⟩:∃l,l=Xaz (Xd8 hH hC):=⟨_,rfl⟩
 rw[<-hK] at pU
 have rK:=Xa (show pA.length<=4000 by
  rw[hK];have:=Xd7 (Xf1 (n:=hH) (x:=hC) (by have:=Xa4 qE.out.1;omega) (by unfold I64;have:=qE.out;omega))
  exact Nat.le_trans this (by show 1001*3+1<=4000;decide))
 have pV:=Xa hK;clear hK st2 qN rJ;go_loopw [40] (λv wr=>∃k:Nat,v=.int .i64 k/\k<=sl.length/\Hid (QX w1 w1.heap.size (pA++Zp sl (O.take k)) wr)) (λv _=>sl.length-(intOf v).toNat)
 case atStart=>exact⟨0,rfl,Nat.zero_le _,Xa (by simpa[Zp] using pU.out)⟩
 case round=>
  obtain⟨k,rfl,hk,hI⟩:=hrel;have pO:Below w1.heap.size w1 wr:=hI.out.bel;have hM:Below W.heap.size W wr:=pD.out.trans (pO.mono pD.out.size);by_cases sC:k<sl.length
  ·obtain⟨g,sD,pB⟩:=HN.out (by omega);subst sD;obtain⟨i,hi⟩:∃i,O[k]? =some i:=⟨_,lgE (by rw[qL.out];exact sC)⟩
   have sE:=qM.out i (lmg hi);have sU:=(pO.cell (p:=⟨g,k,none⟩) pB.lt).trans (pB.cell hi);obtain⟨b,off,hA,hb,hG⟩:=qK.out.aA.2.2 (show 0<sl.length by omega);simp only at hA hG;subst hA;obtain⟨s,hs⟩:∃s,sl[i]? =some s:=⟨_,lgE sE⟩
   have hP:=lmg hs;have hU:=qK.out.each s hP;have hL:=qD.out s hP;have hQ:=rW.out.aA s hP;have he:=Xd.elem hs hb hG ⟨wr,hM⟩;simp only at he;obtain⟨Y,hY,qG,pE,pP⟩:∃V:World,wr.alloc (.cells #[.string s.name,.int .i64 s.depth,.int .i64 s.low,.int .i64 s.high,.int .i64 s.length,.slice s.aG.A s.aG.l.length s.aG.cap,.int .i64 s.aM,.int .i64 s.aN,.int .i64 s.aI,.int .i64 s.most,.int .i64 s.aJ,.slice s.aF.A s.aF.l.length s.aF.cap,.slice s.aE.A s.aE.l.length s.aE.cap] 57)=V/\V.heap.size=wr.heap.size+1/\Below wr.heap.size wr V/\V.heap[wr.heap.size]? =some (.cells #[.string s.name,.int .i64 s.depth,.int .i64 s.low,.int .i64 s.high,.int .i64 s.length,.slice s.aG.A s.aG.l.length s.aG.cap,.int .i64 s.aM,.int .i64 s.aN,.int .i64 s.aI,.int .i64 s.most,.int .i64 s.aJ,.slice s.aF.A s.aF.l.length s.aF.cap,.slice s.aE.A s.aE.l.length s.aE.cap] 57 (0,0)):=by
    obtain⟨A,hA,pR,pS,pT⟩:=bxst wr s;exact⟨A,hA.symm,pR,pS,pT⟩
   have pC:Below W.heap.size W Y:=hM.trans (pE.mono hM.size);have hR:Xd.at_ Y W.heap.size s:=hU.to pC nr;have pF:=λy:Xb Y.heap.size Y=>Xd.boxed pP (by omega) y;have qO:=pF (Xb.refl _ _);simp only[Xb.refl] at qO;have qP:=pM ⟨wr,hM⟩;simp only at qP;have KW:=Xa (λy:Xb Y.heap.size Y=>Xc.after (x:=y) nr (YO hL (X9 s)▸J8 s hQ y.val W.heap.size (Nat.le_trans pC.size y.size) (hR.to (y.below.mono pC.size) nr)));have KB:=Xa (λy:Xb Y.heap.size Y=>Xc.after (x:=y) nr (YO hL (XaM s)▸XbG s hQ y.val W.heap.size (Nat.le_trans pC.size y.size) (hR.to (y.below.mono pC.size) nr)))
   have KH:=Xa (λy:Xb Y.heap.size Y=>Xc.after (x:=y) nr (Xkd s hQ hL y.val W.heap.size (Nat.le_trans pC.size y.size) (hR.to (y.below.mono pC.size) nr)));have hE:=Xa (Xjt hi hs);have hD:=Xg6 hL;unfold Js at hE hD;obtain⟨wn,qQ⟩:∃n,n=X9 s:=⟨_,rfl⟩
   obtain⟨bn,qR⟩:∃n,n=XaM s:=⟨_,rfl⟩
   rw[<-qQ] at KW hE hD;rw[<-qR] at KB hE hD;obtain⟨T,hT⟩:∃T,T=pA++Zp sl (O.take k):=⟨_,rfl⟩
   have pG:T.length<=1000000000:=by
    have h1:=Xcv qD.out (O.take k);have h2:=rK.out;rw[hT,List.length_append];rw[List.length_take] at h1;omega
   have rL:=Xa hT;rw[<-hT] at hI;have sV:(0:Int)<=(k:Int)/\(k:Int)<(sl.length:Int):=by omega
   have sW:(0:Int)<=(i:Int)/\(i:Int)<(sl.length:Int):=by omega
   have pW:=Xa (hI.out.more pE);cases rM:XiW s
   ·rw[rM] at KH hE hD;simp only[Xdz,Bool.false_eq_true,if_false] at hE hD
    have qS:=Xa (show ∀z:Xb Y.heap.size Y,Calls Tryz.prog 35 #[.pointer (some ⟨w1.heap.size,0,none⟩),.slice (some ⟨z.val.heap.size,0,none⟩) 9 9] (z.val.alloc (.cells (([.str (Zg [115,101,116]),.str s.name,.str (Zg [100,101,112,116,104]),.num s.depth,.str (Zg [119,101,105,103,104,116]),.num wn,.str (Zg [105,109,98,97,108,97,110,99,101]),.num bn,.str (Zg [115,108,105,112,115])]:List ZD).map ZD.val).toArray 20)) λe w'=>e=.returned (.tuple #[])/\QX w1 w1.heap.size (T++Xaz [.str (Zg [115,101,116]),.str s.name,.str (Zg [100,101,112,116,104]),.num s.depth,.str (Zg [119,101,105,103,104,116]),.num wn,.str (Zg [105,109,98,97,108,97,110,99,101]),.num bn,.str (Zg [115,108,105,112,115])]) w' from λz=>
     (QP ((pW.out.more z.below).more (brf.alloc nr _)) qF.out (g:=z.val.heap.size) _ hD (heap_alloc_new z.val _) (by simp) pG).mono λe w' ⟨a,b,_⟩=>⟨a,b⟩)
    clear qQ qR hT hD hI hG hs hP hU hL hQ pP qG pE pC hR hM pO pB hi pG
    go_wp2_with (first
     |(go_at_call 36;refine(KW.out (Xb.refl _ _)).mono ?_;rintro e w' ⟨rfl,y1,rfl⟩;have qT:=pF y1)
     |(go_at_call 17;refine(KB.out y1).mono ?_;rintro e w' ⟨rfl,y2,rfl⟩;have qU:=pF y2)
     |(go_at_call 37;refine(KH.out y2).mono ?_;rintro e w' ⟨rfl,y3,rfl⟩;have qV:=pF y3)
     |(go_at_call 35;refine(qS.out y3).mono ?_;rintro e w7 ⟨rfl,st3⟩))
    exact⟨⟨k+1,by go_num,by omega,Xa (by rw[hE.out,<-List.append_assoc,<-rL.out];exact st3)⟩,by simp[intOf];omega⟩
   ·rw[rM] at KH hE hD;simp only[Xdz,if_true] at hE hD
    have qS:=Xa (show ∀z:Xb Y.heap.size Y,Calls Tryz.prog 35 #[.pointer (some ⟨w1.heap.size,0,none⟩),.slice (some ⟨z.val.heap.size,0,none⟩) 9 9] (z.val.alloc (.cells (([.str (Zg [115,101,116]),.str s.name,.str (Zg [100,101,112,116,104]),.num s.depth,.str (Zg [119,101,105,103,104,116]),.num wn,.str (Zg [105,109,98,97,108,97,110,99,101]),.num bn,.str (Zg [104,111,108,100,115])]:List ZD).map ZD.val).toArray 20)) λe w'=>e=.returned (.tuple #[])/\QX w1 w1.heap.size (T++Xaz [.str (Zg [115,101,116]),.str s.name,.str (Zg [100,101,112,116,104]),.num s.depth,.str (Zg [119,101,105,103,104,116]),.num wn,.str (Zg [105,109,98,97,108,97,110,99,101]),.num bn,.str (Zg [104,111,108,100,115])]) w' from λz=>
     (QP ((pW.out.more z.below).more (brf.alloc nr _)) qF.out (g:=z.val.heap.size) _ hD (heap_alloc_new z.val _) (by simp) pG).mono λe w' ⟨a,b,_⟩=>⟨a,b⟩)
    clear qQ qR hT hD hI hG hs hP hU hL hQ pP qG pE pC hR hM pO pB hi pG
    go_wp2_with (first
     |(go_at_call 36;refine(KW.out (Xb.refl _ _)).mono ?_;rintro e w' ⟨rfl,y1,rfl⟩;have qT:=pF y1)
     |(go_at_call 17;refine(KB.out y1).mono ?_;rintro e w' ⟨rfl,y2,rfl⟩;have qU:=pF y2)
     |(go_at_call 37;refine(KH.out y2).mono ?_;rintro e w' ⟨rfl,y3,rfl⟩;have qV:=pF y3)
     |(go_at_call 35;refine(qS.out y3).mono ?_;rintro e w7 ⟨rfl,st3⟩))
    exact⟨⟨k+1,by go_num,by omega,Xa (by rw[hE.out,<-List.append_assoc,<-rL.out];exact st3)⟩,by simp[intOf];omega⟩
  ·have qW:O.take k=O:=List.take_of_length_le (by rw[qL.out];omega);rw[qW] at hI;have qH:=Xa (KL.out wr hM);obtain⟨T,hT⟩:∃T,T=pA++Zp sl O:=⟨_,rfl⟩
   rw[<-hT] at hI;have pG:T.length<=500000000:=by
    have h1:=Xcv qD.out O;have h2:=rK.out;rw[hT,List.length_append];rw[qL.out] at h1;omega
   have pK:RES=T++XaT ⟨hH,hC,⟨SA,scap,sl⟩,⟨RA,rcap,rl⟩⟩:=by
    rw[pI.out,hT,pV.out,rX.out];rfl
   have qP:=pM ⟨wr,hM⟩;simp only at qP;have rN:=Xa hI;have qI:=Xa hM;have sF:=Xa pG;by_cases hB:XdK ⟨hH,hC,⟨SA,scap,sl⟩,⟨RA,rcap,rl⟩⟩
   ·rw[XbP hB] at pK;simp only at pK;obtain⟨qJ,qX⟩:=hB;simp only at qJ qX;obtain⟨pX,rO⟩:=XoC rV.out;obtain⟨LL,qY⟩:∃l,l=Zf sl:=⟨_,rfl⟩
    have qZ:=Xo7 qD.out qJ;have pL:(Zf sl).length<=20:=by simp[Zf];omega
    have KY:Calls Tryz.prog 38 #[.agg #[.string hH,.int .i64 hC,.slice SA sl.length scap,.slice RA rl.length rcap]] wr λe w'=>∃g,wr.heap.size<=g/\e=.returned (.tuple #[.slice (some ⟨g,0,none⟩) rl.length rl.length,.int .i64 0])/\Jm w' g rl.length (Z7 rl LL)/\Below wr.heap.size wr w':=qH.out.mono λe w' hp=>by
     unfold Xck at hp;rw[if_pos qJ] at hp;obtain⟨hb,hp⟩:=hp;rw[if_pos qX,<-qY] at hp;obtain⟨g,k1,k2,k3⟩:=hp;exact⟨g,k1,k2,k3,hb⟩
    rw[<-qY] at pK qZ pL;have sG:=Xa pK;have sH:=Xa KY;have rP:=Xa rO;have rQ:=Xa qZ;have pY:=Xa pL;have rA:=Xa pX;clear qJ qX pK KY rO qZ qY qH hI hM qW hT pG pI pL pX;go_upto_region 23 with (go_at_call 38;refine sH.out.mono ?_;rintro e w3 ⟨g,hg,rfl,hJ,pQ⟩;have rB:=pM ⟨w3,qI.out.trans (pQ.mono qI.out.size)⟩;simp only at rB)
    have sX:=Xa (qI.out.trans (pQ.mono qI.out.size));have sJ:=Xa (rN.out.more pQ);have rC:=Xa hJ;clear hJ pQ hg pO;go_loopw [108] (λv wr=>∃j:Nat,v=.int .i64 j/\j<=rl.length/\Hid (QX w1 w1.heap.size (T++ZX rl LL j) wr)/\Hid (Jm wr g rl.length (Z7 rl LL))) (λv _=>rl.length-(intOf v).toNat)
    case atStart=>exact⟨0,rfl,Nat.zero_le _,Xa (by simpa[ZX] using sJ.out),rC⟩
    case round=>
     obtain⟨j,rfl,hj,hI,hJ⟩:=hrel;have rR:Below W.heap.size W wr:=pD.out.trans (hI.out.bel.mono pD.out.size);by_cases pZ:j<rl.length
     ·obtain⟨b,off,hA,hb,hG⟩:=qK.out.aB.2.2 (show 0<rl.length by omega);simp only at hA hG;subst hA;obtain⟨r,hr⟩:∃r,rl[j]? =some r:=⟨_,lgE pZ⟩
      have he:=Xt.elem hr hb hG ⟨wr,rR⟩;simp only at he;obtain⟨Y,hY,qG,pE,pP⟩:∃V:World,wr.alloc (.cells #[.string r.name,.int .i64 r.fro,.int .i64 r.til,.int .i64 r.most] 67)=V/\V.heap.size=wr.heap.size+1/\Below wr.heap.size wr V/\V.heap[wr.heap.size]? =some (.cells #[.string r.name,.int .i64 r.fro,.int .i64 r.til,.int .i64 r.most] 67 (0,0)):=by
       obtain⟨A,hA,pR,pS,pT⟩:=bxrf wr r;exact⟨A,hA.symm,pR,pS,pT⟩
      have pF:=λy:Xb Y.heap.size Y=>Xt.boxed pP (by omega) y;have sK:g<wr.heap.size:=by
       obtain⟨cur,hc,-⟩:=hJ.out;exact(agS hc).1
      have rD:=hJ.out.keep (pE.block g sK);obtain⟨f,hf⟩:∃f,f=fmk (Z7 rl LL j) D0:=⟨_,rfl⟩
      have sL:=λy:Xb Y.heap.size Y=>(rD.keep (y.below.block g (by omega))).cells pZ;simp only[<-hf] at sL;have hE:=Xa (Xjf (rl:=rl) (L:=LL) hr);have hD:=Xgh (rP.out r (lmg hr)) (hf▸Xqs (rl:=rl) pY.out rQ.out j);rw[<-hf] at hE;unfold J7 at hE hD;obtain⟨X,hX⟩:∃X,X=T++ZX rl LL j:=⟨_,rfl⟩
      have rS:X.length<=1000000000:=by
       have h1:=XeI (rl:=rl) rP.out pY.out rQ.out j;have h2:=sF.out;have h3:=rA.out;rw[hX,List.length_append];omega
      have sM:=Xa hX;rw[<-hX] at hI;have KP:=Xa (λz:Xb Y.heap.size Y=>QP (((hI.out.more pE).more z.below).more (brf.alloc nr (.cells (([.str (Zg [98,101,97,109]),.str r.name,.str (Zg [98,101,97,114,115]),.frac f.1 f.2,.str (Zg [111,102]),.num r.most]:List ZD).map ZD.val).toArray 20))) qF.out (g:=z.val.heap.size) _ hD (heap_alloc_new z.val _) (by simp) rS);have sY:(0:Int)<=(j:Int)/\(j:Int)<(rl.length:Int):=by omega
      have sN:=Xa rD;have qA:g<Y.heap.size:=by omega
      clear hG hr hf hD hX rS hI hJ pP qG pE rD rR;go_upto_region 25 with fail;refine XH Y.heap.size 14 (by kernel_rfl) (by kernel_rfl) ?_;simp only[List.take_succ_cons,List.take_zero,List.drop_succ_cons,List.drop_zero]
      repeat (go_big_quiet_step (fail))
      refine wpQuiet_nil ?_;intro z;go_wp2_with (go_at_call 35;refine(KP.out z).mono ?_;rintro e w7 ⟨rfl,st4,sO⟩)
      refine⟨⟨j+1,by go_num,by omega,Xa (by rw[hE.out,<-List.append_assoc,<-sM.out];exact st4),Xa ?_⟩,by simp[intOf];omega⟩;obtain⟨cur,h1,h2⟩:=(sN.out.keep (z.below.block g qA)).keep (heap_alloc_old z.val _ (Nat.lt_of_lt_of_le qA z.size));exact⟨cur,sO g _ _ _ (by decide) (by decide) h1,h2⟩
     ·have sP:j=rl.length:=by omega
      subst sP;have KT:=Xa (XbL hI.out);clear hI hJ;go_wp2_with (go_at_call 39;refine KT.out.mono ?_;rintro e w7 ⟨rfl,sQ⟩)
      go_ret2;exact Xc.mk (by rw[sG.out];rfl) (rG.out.trans ((pD.out.trans (sQ.mono pD.out.size)).mono rH))
   ·rw[XcR hB,List.append_nil] at pK;subst pK
    have KN:Hid (Calls Tryz.prog 38 #[.agg #[.string hH,.int .i64 hC,.slice SA sl.length scap,.slice RA rl.length rcap]] wr λe w'=>∃n:Int,(n==0)=false/\e=.returned (.tuple #[.slice none 0 0,.int .i64 n])/\Below wr.heap.size wr w'):=Xa (qH.out.mono λe w' hp=>by
     unfold Xck at hp;by_cases h1:∀s∈sl,Xih s<=67108864
     ·rw[if_pos h1] at hp;obtain⟨hb,hp⟩:=hp;rw[if_neg λh2=>hB ⟨h1,h2⟩] at hp;exact⟨12,by decide,hp,hb⟩
     ·rw[if_neg h1] at hp
      exact⟨5,by decide,hp.2,hp.1⟩)
    clear hB qH hI hM pO qW hT pG pI
    go_wp2_with (first
     |(go_at_call 38;refine KN.out.mono ?_;rintro e w3 ⟨n,sZ,rfl,pQ⟩;have KT:=Xa (XbL (rN.out.more pQ)))
     |(go_at_call 39;refine KT.out.mono ?_;rintro e w4 ⟨rfl,sR⟩))
    go_ret2;exact Xc.mk rfl (rG.out.trans ((pD.out.trans (sR.mono pD.out.size)).mono rH))
end Go.Proofs.YtdcahhbipeaggaaGreatDoor
