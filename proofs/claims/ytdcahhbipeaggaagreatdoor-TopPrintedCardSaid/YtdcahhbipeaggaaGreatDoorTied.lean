/- Lemmas for TopPrinted: SrcSetLn, Rank, ReadSheet, Tied. -/
import Derived.Lib.AppendStr
import Derived.Lib.ItoaLen
import Derived.Deep.RegionHeld3
import Derived.Test.YtdcahhbipeaggaaGreatDoorSecNum
import Derived.OpenShut
import Derived.ProofKit
import Derived.HandedShaped
import Derived.LaidMore
import Derived.Lay
import Derived.SevenTiedAt
import Derived.Stop.Joined
import Derived.Stop.LaidErr
set_option maxRecDepth 100000
set_option maxHeartbeats 16000000
namespace Go.Proofs.YtdcahhbipeaggaaGreatDoor
open Go.RowKit
theorem Xft:(Tryz.prog.info? 80).map (·.size)=some 2:=by kernel_rfl
theorem XlU:liesAt Tryz.prog Tryz.prog.depth 82 (2/Tryz.prog.cellsOf 82) 0 80 1=true:=by kernel_rfl
theorem XrM:(Tryz.prog.info? 5).map (λi=>(i.zero,i.size,i.bytes))=some (some (.int .u8 0),1,1):=by kernel_rfl
theorem XhK(b:Nat)(w:World)(h0:w.cell? ⟨b,0,none⟩=some (.pointer (some ⟨b,0,none⟩))):
 Calls Tryz.prog 99 #[.pointer (some ⟨b,0,none⟩)] w λe w'=>e=.returned (.tuple #[])/\w'=w:=by
 obtain⟨j,hj,_⟩:=Option.map_eq_some_iff.1 Xft;go_enter Tryz.func99,Tryz.ntmps99;go_wp2;rw[Lib.run_neq_ptr_same w _ Tryz.underlying77 hj];go_wp2;go_end0;exact⟨rfl,rfl⟩
theorem XgM(b:Nat)(w:World)(h0:w.cell? ⟨b,0,none⟩=some (.pointer none))(hC:w.shape? b=some (82,2))(hE:w.frozen? ⟨b,0,none⟩=false):
 Calls Tryz.prog 99 #[.pointer (some ⟨b,0,none⟩)] w λe w'=>e=.returned (.tuple #[])/\w'=w.setCell ⟨b,0,none⟩ (.pointer (some ⟨b,0,none⟩)):=by
 obtain⟨j,hj,hD⟩:=Option.map_eq_some_iff.1 Xft;go_enter Tryz.func99,Tryz.ntmps99;go_wp2;rw[Lib.run_to_unsafe w ⟨b,0,none⟩ Tryz.underlying77 Tryz.underlying231 hj (by rw[hD];decide) hC (Nat.zero_lt_succ 1)];simp only[Result.andThen];rw[Oper.upon_value];go_wp2;rw[run_callFunc_extern Tryz.func155 (by kernel_rfl) (by kernel_rfl) (by kernel_rfl) (e:=Extern.AbiNoEscape.same) (by kernel_rfl)];rw[Lib.run_noEscape];simp only[Result.andThen];rw[Oper.upon_value];go_wp2;rw[Lib.run_from_unsafe w ⟨b,0,none⟩ Tryz.underlying231 Tryz.underlying77 hj hC XlU];simp only[Result.andThen];rw[Oper.upon_value]
 go_wp2;go_end0;exact⟨rfl,rfl⟩
def XaB(w w':World):Prop:=∀(k:Nat) (cs:Array Value) (t:TypeId) (fr:Nat×Nat),t≠82->t≠5->w.heap[k]? =some (.cells cs t fr)->w'.heap[k]? =some (.cells cs t fr)
theorem XaB.refl(w:World):XaB w w:=λ_ _ _ _ _ _ h=>h
theorem XaB.trans{a b c:World}(h:XaB a b)(h':XaB b c):XaB a c:=λk cs t fr h1 h2 h3=>h' k cs t fr h1 h2 (h k cs t fr h1 h2 h3)
theorem XaB.setB{w:World}{b i:Nat}{c:Array Value}{fr:Nat×Nat}(h:w.heap[b]? =some (.cells c 82 fr))(v:Value):XaB w (w.setCell ⟨b,i,none⟩ v):=λk cs t fr' h1 _ h3=>by
 by_cases e:k=b
 ·subst e;rw[h] at h3;injection h3 with h3;injection h3 with _ h4;exact absurd h4.symm h1
 ·rw[RowKit.Below.heap_setCell _ _ _ _ e];exact h3
theorem XdJ{T e:TypeId}{B b:Nat}{p:Value}{bs:List Value}{w w':World}(h:Lib.BuilderAt T e B b p bs w)(hb:Below w.heap.size w w'):Lib.BuilderAt T e B b p bs w':=by
 obtain⟨hB,v,hD,hC,hE⟩:=h;exact⟨hB,v,(hb.block b (agS hD).1).trans hD,J1 hC hb,hE⟩
theorem XgB{T e:TypeId}{B b:Nat}{bs:List Value}{w w':World}(h:Lib.IsBuilder T e B b bs w)(hb:Below w.heap.size w w'):Lib.IsBuilder T e B b bs w':=by
 rcases h with h|h
 ·exact Or.inl (XdJ h hb)
 ·exact Or.inr (XdJ h hb)
theorem XhL(B b:Nat)(bs:List Value)(w:World)(h:Lib.IsBuilder 82 5 B b bs w):
 Calls Tryz.prog 99 #[.pointer (some ⟨b,0,none⟩)] w λe w'=>e=.returned (.tuple #[])/\(Lib.BuilderAt 82 5 B b (.pointer (some ⟨b,0,none⟩)) bs w'/\Below B w w')/\XaB w w':=by
 rcases h with h|h
 ·refine(XgM b w h.cell0 h.shape h.frozen0).mono ?_;rintro e w' ⟨rfl,rfl⟩;obtain⟨hB,v,hC,r⟩:=h;exact⟨rfl,⟨Lib.BuilderAt.used ⟨hB,v,hC,r⟩ _,(Below.refl B w).setCell (p:=⟨b,0,none⟩) hB _⟩,XaB.setB hC _⟩
 ·refine(XhK b w h.cell0).mono ?_;rintro e w' ⟨rfl,rfl⟩;exact⟨rfl,⟨h,Below.refl B _⟩,XaB.refl _⟩
theorem Xgp(B b:Nat)(bs:List Value)(s:ByteArray)(w:World)(h:Lib.IsBuilder 82 5 B b bs w)(hlen:bs.length+s.size<=140737488355328)(hQ:B<=w.heap.size):
 Calls Tryz.prog 76 #[.pointer (some ⟨b,0,none⟩),.string s] w λe w'=>e=.returned (.tuple #[.int .i64 s.size,.nilIface])/\(Lib.BuilderAt 82 5 B b (.pointer (some ⟨b,0,none⟩)) (bs++Lib.strCells s) w'/\Below B w w')/\XaB w w':=by
 obtain⟨i0,hi,hJ,hK,hL⟩:=info_parts XrM;go_enter Tryz.func76,Tryz.ntmps76;go_wp2_with (go_at_call 99;refine(XhL B b bs _ h).mono ?_)
 rintro e w1 ⟨rfl,⟨h1,hI⟩,hM⟩;obtain⟨hB,v,hH,hE,hN⟩:=h1;have c0:w1.cell? ⟨b,0,none⟩=some (.pointer (some ⟨b,0,none⟩)):=by rw[Lib.cell_of_heap hH];rfl
 have c1:w1.cell? ⟨b,1,none⟩=some v:=by rw[Lib.cell_of_heap hH];rfl
 go_wp2_with (at_builtin;refine Lib.wpList_append_own_string _ rfl _ _ 78 9 rfl B 5 i0 Tryz.underlying78 Tryz.underlying9 hi hJ hK hL _ _ _ rfl hE s rfl ?c3 ?c4 ?c5 ?_)
 case c3=>unfold maxLen;omega
 case c4=>omega
 case c5=>have:=hI.size;omega
 intro v' w2 hD hC _;have hO:b<w1.heap.size:=(agS hH).1;have hG:w2.heap[b]? =some (.cells #[.pointer (some ⟨b,0,none⟩),v] 82 (0,0)):=by
  rw[hC.block b hO (λe=>hN e.symm)];exact hH
 have hP:XaB w1 w2:=λk cs t fr h1 h2 h3=>by
  refine(hC.block k (agS h3).1 λe=> ?_).trans h3;rcases hE.2 with ⟨hv,_⟩|⟨g,cap,cur,hv,_,hh,_⟩
  ·rw[hv] at e;simp[Value.ownBlock] at e
  ·rw[hv] at e;simp[Value.ownBlock] at e;subst e;rw[hh] at h3;injection h3 with h3;injection h3 with _ h4;exact h2 h4.symm
 have d0:w2.cell? ⟨b,0,none⟩=some (.pointer (some ⟨b,0,none⟩)):=by rw[Lib.cell_of_heap hG];rfl
 have d1:w2.cell? ⟨b,1,none⟩=some v:=by rw[Lib.cell_of_heap hG];rfl
 have f1:w2.frozen? ⟨b,1,none⟩=false:=Lib.frozen_of_heap hG 1;obtain⟨ao,n',cap,rfl⟩:∃ao n' cap,v'=.slice ao n' cap:=by
  rcases hD.2 with ⟨hv,_⟩|⟨g,cap,cur,hv,_⟩
  ·exact⟨_,_,_,hv⟩
  ·exact⟨_,_,_,hv⟩
 go_wp2;go_ret2;refine⟨rfl,⟨?_,?_⟩,?_⟩
 ·exact Lib.BuilderAt.put (T:=82) (e:=5) hB hG (bs':=bs++Lib.strCells s) (by simpa[Lib.strCells_length] using hD) (by decide)
 ·exact(hI.grown hC (by have:=hI.size;omega) (λk hk=>(hE.lt k hk).1)).setCell (p:=⟨b,1,none⟩) hB _
 ·exact(hM.trans hP).trans (XaB.setB hG _)
structure TSt(W:World)(b:Nat)(T:List UInt8)(x:World):Prop where
 ib:Lib.IsBuilder 82 5 b b (Lib.byteCells T) x
 bel:Below W.heap.size W x
 le:W.heap.size<=b
 lt:b<x.heap.size
theorem TSt.more{W x y:World}{b:Nat}{T:List UInt8}(h:TSt W b T x)(hb:Below x.heap.size x y):TSt W b T y:=
 ⟨XgB h.ib hb,h.bel.trans (hb.mono h.bel.size),h.le,Nat.lt_of_lt_of_le h.lt hb.size⟩
theorem TSt.fresh(W x:World)(hb:Below W.heap.size W x):TSt W x.heap.size [] (x.alloc (.cells #[.pointer none,.slice none 0 0] 82)):=
 ⟨Lib.fresh_isBuilder _ _ x,hb.alloc hb.size _,hb.size,by simp⟩
theorem Xqw{W x:World}{b:Nat}{T:List UInt8}(st:TSt W b T x)(s:ByteArray)(hlen:T.length+s.size<=140737488355328):
 Calls Tryz.prog 76 #[.pointer (some ⟨b,0,none⟩),.string s] x λe w'=>e=.returned (.tuple #[.int .i64 s.size,.nilIface])/\TSt W b (T++s.data.toList) w'/\XaB x w':=by
 refine(Xgp b b (Lib.byteCells T) s x st.ib (by rw[Lib.byteCells_length];exact hlen) (Nat.le_of_lt st.lt)).mono ?_;rintro e w' ⟨he,⟨h1,h2⟩,h3⟩;exact⟨he,⟨Or.inr (by rw[Lib.byteCells_append,<-Lib.strCells_eq];exact h1),st.bel.trans (h2.mono st.le),st.le,Nat.lt_of_lt_of_le st.lt h2.size⟩,h3⟩
end Go.Proofs.YtdcahhbipeaggaaGreatDoor
namespace Go.Proofs.YtdcahhbipeaggaaGreatDoor
open Go.RowKit
theorem XrD(n:Int)(h:I64 n)(w:World)(ht:J9 w):Calls Tryz.prog 75 #[.int .i64 n] w (Xc w (.string ⟨(Lib.itoa n).toArray⟩)):=
 (Tryz.strconv_Itoa n h.1 h.2 w ht.1).mono λe w' ⟨he,k,os,hw⟩=>⟨he,by rw[hw];exact Lib.below_grow _ w nr k os⟩
theorem Qc{x:World}{base:Nat}{e:TypeId}{size:Nat}{v:Value}{n:Nat}{xs:List Value}{k:Nat}(h:x.ownsRow base e size v n xs)(hk:v.ownBlock=some k):base<=k/\∃cur,x.heap[k]? =some (.cells cur e (0,0)):=by
 rcases h.2 with ⟨rfl,_⟩|⟨g,cap,cur,rfl,hg,hh,_⟩
 ·simp[Value.ownBlock] at hk
 ·simp[Value.ownBlock] at hk;subst hk;exact⟨hg,cur,hh⟩
def Za(w w':World):Prop:=∀(k:Nat) (cs:Array Value) (t:TypeId) (fr:Nat×Nat),t≠82->t≠5->t≠9->w.heap[k]? =some (.cells cs t fr)->w'.heap[k]? =some (.cells cs t fr)
theorem Za.trans{a b c:World}(h:Za a b)(h':Za b c):Za a c:=λk cs t fr h1 h2 h3 h4=>h' k cs t fr h1 h2 h3 (h k cs t fr h1 h2 h3 h4)
theorem Za.below{w w':World}(h:Below w.heap.size w w'):Za w w':=λk _ _ _ _ _ _ h3=>(h.block k (agS h3).1).trans h3
theorem Za.ofW{w w':World}(h:XaB w w'):Za w w':=λk cs t fr h1 h2 _ h4=>h k cs t fr h1 h2 h4
theorem Za.grown{x y:World}{base:Nat}{size:Nat}{v:Value}{n:Nat}{xs:List Value}(h:x.ownsRow base 9 size v n xs)(hg:x.grownBy y v.ownBlock):Za x y:=λk cs t fr _ _ h3 h4=>by
 refine(hg.block k (agS h4).1 λe=> ?_).trans h4;obtain⟨_,cur,hc⟩:=Qc h e.symm;rw[hc] at h4;injection h4 with h4;injection h4 with _ h5;exact h3 h5.symm
theorem TSt.grow{W x y:World}{b:Nat}{T:List UInt8}{base:Nat}{size:Nat}{v:Value}{n:Nat}{xs:List Value}(h:TSt W b T x)(hC:x.ownsRow base 9 size v n xs)(hb:W.heap.size<=base)(hg:x.grownBy y v.ownBlock):TSt W b T y:=by
 have key:∀(k:Nat) (cs:Array Value) (t:TypeId) (fr:Nat×Nat),t≠9->x.heap[k]? =some (.cells cs t fr)->y.heap[k]? =some (.cells cs t fr):=λk cs t fr h3 h4=>by
  refine(hg.block k (agS h4).1 λe=> ?_).trans h4;obtain⟨_,cur,hc⟩:=Qc hC e.symm;rw[hc] at h4;injection h4 with h4;injection h4 with _ h5;exact h3 h5.symm
 have at_:∀p,Lib.BuilderAt 82 5 b b p (Lib.byteCells T) x->Lib.BuilderAt 82 5 b b p (Lib.byteCells T) y:=λp hp=>by
  obtain⟨hB,v',hD,ho,hE⟩:=hp;refine⟨hB,v',key b _ _ _ (by decide) hD,XaP ho (λg hG=> ?_),hE⟩;obtain⟨_,cur,hc⟩:=Qc ho hG;rw[hc];exact key g _ _ _ (by decide) hc
 refine⟨?_,Below.grown h.bel hg h.bel.size (λk hk=>Nat.le_trans hb (Qc hC hk).1),h.le,Nat.lt_of_lt_of_le h.lt hg.size⟩;rcases h.ib with h1|h1
 ·exact Or.inl (at_ _ h1)
 ·exact Or.inr (at_ _ h1)
theorem XiZ{x y w':World}{r0 r1:Option Nat}(h:x.grownBy y r0)(h2:y.grownBy w' r1)(hr:∀j,r1=some j->r0=some j\/x.heap.size<=j):x.grownBy w' r0:=
 ⟨h2.os.trans h.os,h2.tape.trans h.tape,h2.output.trans h.output,Nat.le_trans h.size h2.size,λk hk hC=>(h2.block k (Nat.lt_of_lt_of_le hk h.size) (λe=>by
  rcases hr k e.symm with h1|h1
  ·exact hC h1.symm
  ·omega)).trans (h.block k hk hC)⟩
theorem Xqk:(Tryz.prog.info? 9).map (λi=>(i.zero,i.size,i.bytes))=some (some (.string ⟨#[]⟩),1,16):=by kernel_rfl
def Xet(n:Int):ByteArray:=⟨(Lib.itoa n).toArray⟩
def XiN(ws:List ByteArray)(l:List Int):List UInt8:=Lib.join ((ws++l.map Xet).map (·.data.toList)) [32]++[10]
theorem Xab{W x:World}{b base:Nat}{T:List UInt8}{v:Value}{ws:List ByteArray}{A:Option Addr}{cap:Nat}{l:List Int}(st:TSt W b T x)(ht:J9 W)(hK:x.ownsRow base 9 1 v ws.length (ws.map Value.string))(hE:W.heap.size<=base)(qD:base<=x.heap.size)(qE:0<ws.length)
 (hs:XA x x.heap.size 1 Xj ⟨A,cap,l⟩) (hA:∀p,A=some p->v.ownBlock≠some p.block) (hl:∀n∈l,I64 n) (hlen:ws.length+l.length<=1000000) (hsz:T.length+(XiN ws l).length<=140737488355328):
 Calls Tryz.prog 27 #[.pointer (some ⟨b,0,none⟩),v,.slice A l.length cap] x λe w'=>e=.returned (.tuple #[])/\TSt W b (T++XiN ws l) w'/\Za x w':=by
 obtain⟨i8,hX,hY,hZ,pA⟩:=info_parts Xqk;have HI:=Xa (And.intro hX (And.intro hY (And.intro hZ pA)));have hO:=Xa st;have hD:=Xa hK;have HS:=Xa hs;have pK:=Xa hA;have HL:=Xa hl;have HT:=Xa ht;have pL:=Xa hsz;have hm:cap<=9223372036854775807:=hs.2.1;have qF:l.length<=cap:=hs.1;clear hX hY hZ pA st hK hs hA hl ht hsz;go_enter Tryz.func27,Tryz.ntmps27;go_wp2_with fail;go_loopw [1,10] (λv1 v' wr=>∃k:Nat,v'=.int .i64 k/\k<=l.length/\Hid (wr.ownsRow base 9 1 v1 (ws.length+k) ((ws++(l.take k).map Xet).map Value.string))/\Hid (x.grownBy wr v.ownBlock)/\Hid (∀j,v1.ownBlock=some j->v.ownBlock=some j\/x.heap.size<=j)) (λ_ v _=>l.length-(intOf v).toNat)
 case atStart=>exact⟨0,rfl,Nat.zero_le _,Xa (by simpa using hD.out),Xa (World.grownBy.refl _ _),Xa (λj h=>Or.inl h)⟩
 case round=>
  obtain⟨k,rfl,hk,how,hI,hP⟩:=hrel;by_cases pM:k<l.length
  ·obtain⟨nb,no,hA,pB,hG⟩:=HS.out.2.2 (show 0<l.length by omega);simp only at hA;subst hA;have pN:=pK.out ⟨nb,no,none⟩ rfl;obtain⟨n,hn⟩:∃n,l[k]? =some n:=⟨l[k],lgE pM⟩
   have pC:=HL.out n (lmg hn);have hc:=hG k n hn 0 _ rfl;have qG:wr.cell? ⟨nb,no+k,none⟩=some (.int .i64 n):=by
    refine(World.cell?_of_block (a:=⟨nb,no+k,none⟩) (hI.out.block nb pB (λe=>pN e.symm))).trans ?_;simpa using hc
   have pD:Below W.heap.size W wr:=Below.grown hO.out.bel hI.out hO.out.bel.size (λj hj=>Nat.le_trans hE (Qc hD.out hj).1);have KI:=Xa (Xc.first (XrD n pC wr (HT.out.below pD)));have HN:=Xa hn;have qH:=hI.out.size;clear hG hc hn pC pD
   go_wp2_with (first
    |(go_at_call 75;refine KI.out.mono ?_;rintro e w' ⟨rfl,z,rfl⟩)
    |(at_builtin;refine Hid.out ?_))
   refine Lib.hid ?_;have hz:=z.size;refine wpList_append_lies _ rfl _ _ 84 rfl base 9 i8 (.string ⟨#[]⟩) 1 16 Tryz.underlying84 HI.out.1 HI.out.2.1 HI.out.2.2.1 HI.out.2.2.2 rfl (by decide) _ _ _ rfl ((J1 how.out z.below).alloc _) ⟨z.val.heap.size,0,none⟩ 1 1 [.string (Xet n)] rfl rfl (World.news_of_block (heap_alloc_new z.val _)) (λu hu=>by simp at hu;subst hu;rfl) (by omega) (by unfold maxLen;omega) (by omega) (by simp;omega) (z.val.heap.size+1) (by simp) ?_;intro g4 cap4 w4 hH hL pE _;have hx1:x.grownBy (z.val.alloc (.cells #[.string (Xet n)] 9 (0,0))) v.ownBlock:=XiZ hI.out (r1:=none) (XD (z.below.alloc z.size _)) (λj h=>by cases h)
   have pO:=Xa (XiZ hx1 hL hP.out)
   have pP:=Xa (show ∀j,(Value.slice (some ⟨g4,0,none⟩) (ws.length+k+1) cap4).ownBlock=some j->v.ownBlock=some j\/x.heap.size<=j from λj hj=>by
    have pQ:g4=j:=by simpa[Value.ownBlock] using hj
    subst pQ;rcases pE with h5|h5
    ·exact hP.out g4 h5
    ·exact Or.inr (by omega))
   have pR:=Xa (show w4.ownsRow base 9 1 (.slice (some ⟨g4,0,none⟩) (ws.length+k+1) cap4) (ws.length+(k+1)) ((ws++(l.take (k+1)).map Xet).map Value.string) by
    have e:(ws++(l.take (k+1)).map Xet).map Value.string=(ws++(l.take k).map Xet).map Value.string++[.string (Xet n)]:=by
     rw[List.take_add_one,HN.out];simp
    rw[e,<-Nat.add_assoc]
    exact hH)
   clear hH hL pE hx1;go_wp2_with fail;exact⟨⟨k+1,by go_num,by omega,pR,pO,pP⟩,by simp[intOf];omega⟩
  ·have pS:k=l.length:=by omega
   subst pS;have ho:=how.out;rw[List.take_length] at ho;obtain⟨zs,hN⟩:∃zs,zs=ws++l.map Xet:=⟨_,rfl⟩
   have pF:ws.length+l.length=zs.length:=by rw[hN];simp
   rw[pF,<-hN] at ho;have pG:TSt W b T wr:=hO.out.grow hD.out hE hI.out;have pH:Za x wr:=Za.grown hD.out hI.out;obtain⟨g,gc,hQ,qI,pT⟩:=World.ownsRow.form ho (by omega);have hC:∀(j:Nat) s,zs[j]? =some s->wr.cell? ⟨g,0+j,none⟩=some (.string s):=λj s hj=>by
    have h9:=World.ownsRow.cells ho (show u1.ownBlock=some g by rw[hQ];rfl) j (.string s) (by simp[hj]);rw[Nat.zero_add];unfold Addr.add at h9;split at h9
    ·rename_i h0;rw[h0];exact h9
    ·simpa using h9
   have pU:zs.length<=gc:=by
    rw[hQ] at ho;rcases Jf ho with ⟨h1,_⟩|⟨g',cur,h1,h2,h3,h4,h5,_⟩
    ·cases h1
    ·exact h4
   obtain⟨J,hJ,hR⟩:∃J:ByteArray,J=⟨(Lib.join (zs.map (·.data.toList)) [32]).toArray⟩/\J.data.toList=Lib.join (zs.map (·.data.toList)) [32]:=⟨_,rfl,rfl⟩
   have hT:XiN ws l=J.data.toList++[10]:=by rw[hR,hN];rfl
   have hsz:=pL.out;rw[hT] at hsz;simp only[List.length_append,List.length_singleton,Array.length_toList] at hsz;have pV:J.data.size=J.size:=rfl;have qJ:(J.size:Int)<=140737488355327:=by omega
   have KJ:=Tryz.strings_Join g 0 gc zs ⟨#[32]⟩ wr.drew hC pT (by omega) pU (by
    have:(Lib.join (zs.map (·.data.toList)) (({data:=#[32]}:ByteArray).data.toList)).length=J.data.toList.length:=by rw[hR]
    rw[this,Array.length_toList]
    omega)
   rw[show(⟨(Lib.join (zs.map (·.data.toList)) (({data:=#[32]}:ByteArray).data.toList)).toArray⟩:ByteArray)=J from hJ.symm] at KJ;have pW:=Xa KJ;have hU:=Xa pG;have pX:=Xa pH;have pY:=Xa hT;subst hQ;have pB:¬9223372036854775807<J.size+1:=by omega
   have hV:=Xa (show T.length+(J.size+1)<=140737488355328 by omega);clear KJ pG pH hJ hR hT ho how hC hP hI hN pF pV hsz;go_wp2_with fail
   go_region_law (first
    |(go_simp;go_at_call 77;refine pW.out.mono ?_;rintro e w2 ⟨rfl,pI⟩
      have hW:Below wr.heap.size wr w2:=(Below.refl wr.heap.size wr).drew.trans pI;have pZ:=Xa (hU.out.more hW);have qA:=Xa (pX.out.trans (Za.below hW))
      clear pI hW)
    |(go_simp;go_at_call 76;refine(Xqw pZ.out _ (by
       show T.length+(J++({data:=#[10]}:ByteArray)).size<=_;have e:(J++({data:=#[10]}:ByteArray)).size=J.size+1:=by rw[ByteArray.size_append];rfl
       have:=hV.out
       omega)).mono ?_;rintro e w3 ⟨rfl,hM,pJ⟩
      have qB:=Xa hM;have qC:=Xa (qA.out.trans (Za.ofW pJ))
      clear hM pJ))
   all_goals
    refine⟨rfl,.tuple #[],by simp[results,Tryz.results27],rfl,?_,qC.out⟩;rw[pY.out];have e:(J++({data:=#[10]}:ByteArray)).data.toList=J.data.toList++[10]:=by simp[ByteArray.data_append]
    rw[<-e];exact qB.out
end Go.Proofs.YtdcahhbipeaggaaGreatDoor
namespace Go.Proofs.YtdcahhbipeaggaaGreatDoor
open Go Go.Lib Go.RowKit
theorem XiQ:∀(xs:List (List UInt8)),Lib.join xs [32]=Xc3 xs
 |[]=>rfl
 |[a]=>by simp[Lib.join,Xc3]
 |a::b::l=>by
  have h:=XiQ (b::l);rw[Xc3,<-h];simp[Lib.join,List.intercalate,List.intersperse]
theorem Q6(ws:List ByteArray)(l:List Int):XiN ws l=Yv (ws.map XV++nums l):=by
 have e:(ws++l.map Xet).map (λx=>x.data.toList)=(ws.map XV++nums l).map wb:=by
  rw[List.map_append,List.map_append,List.map_map,List.map_map];congr 1
  ·refine List.map_congr_left λx _=> ?_;show x.data.toList=wb (.wd (bs x));rw[Yk];rfl
  ·show l.map _=(l.map Wd.num).map wb;rw[List.map_map];exact List.map_congr_left λx _=>rfl
 rw[XiN,e,XiQ,Yv]
end Go.Proofs.YtdcahhbipeaggaaGreatDoor
namespace Go.Proofs.YtdcahhbipeaggaaGreatDoor
open Go Go.RowKit
theorem XaG{x:World}{g base:Nat}{e:TypeId}(us:List Value)(h:x.heap[g]? =some (.cells us.toArray e (0,0)))(hb:base<=g)(hn:us.length<=1000):x.ownsRow base e 1 (.slice (some ⟨g,0,none⟩) us.length us.length) us.length us:=by
 refine⟨by simp,Or.inr ⟨g,us.length,us.toArray,rfl,hb,h,Nat.le_refl _,by unfold maxLen;omega,by simp,by simp⟩⟩
theorem XqN{α:Type}{w:World}{B size:Nat}{cells:α->List Value}:XA w B size cells ⟨none,0,[]⟩:=⟨Nat.le_refl _,Nat.zero_le _,λh=>absurd h (by simp)⟩
def Qo(W:World)(b:Nat)(T:List UInt8)(ws:List Wd)(x:World)(e:Ending)(w':World):Prop:=e=.returned (.tuple #[])/\TSt W b (T++Yv ws) w'/\Za x w'
theorem Xds{W x:World}{b:Nat}{T:List UInt8}(st:TSt W b T x)(ht:J9 W)(ws:List ByteArray)(l:List Int)(hH:0<ws.length)(hw:ws.length<=1000)(hl:∀n∈l,I64 n)(hI:l.length<=1000)(hsz:T.length+(Yv (ws.map XV++nums l)).length<=140737488355328):
 Calls Tryz.prog 27 #[.pointer (some ⟨b,0,none⟩),.slice (some ⟨x.heap.size,0,none⟩) ws.length ws.length,.slice (some ⟨x.heap.size+1,0,none⟩) l.length l.length] ((x.alloc (.cells (ws.map Value.string).toArray 9 (0,0))).alloc (.cells (l.map (Value.int .i64)).toArray 3 (0,0))) (Qo W b T (ws.map XV++nums l) x):=by
 obtain⟨V1,hJ,hK,hL,hM⟩:=boxed x (.cells (ws.map Value.string).toArray 9 (0,0));obtain⟨V2,hN,hO,hD,hE⟩:=boxed V1 (.cells (l.map (Value.int .i64)).toArray 3 (0,0));rw[<-hJ,<-hN];rw[hK] at hO hD hE;have hG:Below x.heap.size x V2:=hL.trans (hD.mono (by omega));have hg:V2.heap[x.heap.size]? =some (.cells (ws.map Value.string).toArray 9 (0,0)):=(hD.block _ (by omega)).trans hM;have hW:=st.bel.size;have hC:=XaG (base:=W.heap.size) (ws.map Value.string) hg hW (by simpa using hw);rw[List.length_map] at hC
 refine(Xab (base:=W.heap.size) (st.more hG) ht hC nr (by omega) hH (XhX l hI hE) (λp hp=>by
  have hP:=Option.some.inj hp;subst hP
  simp[Value.ownBlock]) hl (by omega) (by rw[Q6];exact hsz)).mono ?_
 rintro e w' ⟨h1,h2,h3⟩;rw[Q6] at h2;exact⟨h1,h2,(Za.below hG).trans h3⟩
theorem Xro{W x:World}{b:Nat}{T:List UInt8}(st:TSt W b T x)(ht:J9 W)(ws:List ByteArray)(hG:0<ws.length)(hw:ws.length<=1000)(hsz:T.length+(Yv (ws.map XV)).length<=140737488355328):
 Calls Tryz.prog 27 #[.pointer (some ⟨b,0,none⟩),.slice (some ⟨x.heap.size,0,none⟩) ws.length ws.length,.slice none 0 0] (x.alloc (.cells (ws.map Value.string).toArray 9 (0,0))) (Qo W b T (ws.map XV) x):=by
 obtain⟨V1,hH,hJ,hE,hI⟩:=boxed x (.cells (ws.map Value.string).toArray 9 (0,0));rw[<-hH];have hW:=st.bel.size;have hC:=XaG (base:=W.heap.size) (ws.map Value.string) hI hW (by simpa using hw);rw[List.length_map] at hC;have hD:=Q6 ws [];simp only[nums,List.map_nil,List.append_nil] at hD;refine(Xab (base:=W.heap.size) (A:=none) (cap:=0) (l:=[]) (st.more hE) ht hC nr (by omega) hG XqN (λp hp=>by cases hp) (λn hn=>by cases hn) (by simp;omega) (by rw[hD];exact hsz)).mono ?_;rintro e w' ⟨h1,h2,h3⟩;rw[hD] at h2;exact⟨h1,h2,(Za.below hE).trans h3⟩
end Go.Proofs.YtdcahhbipeaggaaGreatDoor
namespace Go.Proofs.YtdcahhbipeaggaaGreatDoor
open Go Go.RowKit
theorem Xne:XV (⟨#[104,111,117,115,101]⟩:ByteArray)=.wd Xdc:=by
 have e:bs (⟨#[104,111,117,115,101]⟩:ByteArray)=Xdc:=by kernel_rfl
 rw[XV,e]
theorem Xo0:XV (⟨#[114,111,111,102]⟩:ByteArray)=.wd Xeh:=by
 have e:bs (⟨#[114,111,111,102]⟩:ByteArray)=Xeh:=by kernel_rfl
 rw[XV,e]
theorem Xo2:XV (⟨#[105,116,101,109]⟩:ByteArray)=.wd Xc0:=by
 have e:bs (⟨#[105,116,101,109]⟩:ByteArray)=Xc0:=by kernel_rfl
 rw[XV,e]
theorem Xnf:XV (⟨#[98,114,105,99,107]⟩:ByteArray)=.wd Xat:=by
 have e:bs (⟨#[98,114,105,99,107]⟩:ByteArray)=Xat:=by kernel_rfl
 rw[XV,e]
theorem Xo1:XV (⟨#[109,111,118,101]⟩:ByteArray)=.wd XcZ:=by
 have e:bs (⟨#[109,111,118,101]⟩:ByteArray)=XcZ:=by kernel_rfl
 rw[XV,e]
theorem Xng:XV (⟨#[97,112,97,114,116]⟩:ByteArray)=.wd Xcq:=by
 have e:bs (⟨#[97,112,97,114,116]⟩:ByteArray)=Xcq:=by kernel_rfl
 rw[XV,e]
theorem Xri:XV (⟨#[115,101,116]⟩:ByteArray)=.wd Xjp:=by
 have e:bs (⟨#[115,101,116]⟩:ByteArray)=Xjp:=by kernel_rfl
 rw[XV,e]
theorem Xrj:XV (⟨#[99,117,101]⟩:ByteArray)=.wd Xhz:=by
 have e:bs (⟨#[99,117,101]⟩:ByteArray)=Xhz:=by kernel_rfl
 rw[XV,e]
theorem XjG{W x:World}{b:Nat}{T R:List UInt8}{D:Nat}(st:TSt W b T x)(ht:J9 W)(h:Xl)(h0:I64 (h.aH))(hD:D<=140737488355328)(hsz:(T++(Yv (houseLn h)++R)).length=D):
 Calls Tryz.prog 27 #[.pointer (some ⟨b,0,none⟩),.slice (some ⟨x.heap.size,0,none⟩) 2 2,.slice (some ⟨x.heap.size+1,0,none⟩) 1 1] ((x.alloc (.cells #[.string ⟨#[104,111,117,115,101]⟩,.string h.name] 9 (0,0))).alloc (.cells #[.int .i64 h.aH] 3 (0,0))) (Qo W b T (houseLn h) x):=by
 have e:([⟨#[104,111,117,115,101]⟩,h.name]:List ByteArray).map XV++nums [h.aH]=houseLn h:=by
  rw[List.map_cons,Xne];rfl
 have K:=Xds st ht [⟨#[104,111,117,115,101]⟩,h.name] [h.aH] (by simp) (by simp) (λn hn=>by
  simp only[List.mem_cons,List.not_mem_nil,or_false] at hn;rcases hn with rfl
  all_goals assumption) (by simp) (by
  rw[e];simp only[List.length_append] at hsz ⊢
  omega)
 rw[e] at K;exact K
theorem XlS{W x:World}{b:Nat}{T R:List UInt8}{D:Nat}(st:TSt W b T x)(ht:J9 W)(r:Xt)(h0:I64 (r.fro))(h1:I64 (r.til))(h2:I64 (r.most))(hD:D<=140737488355328)(hsz:(T++(Yv (Q2 r)++R)).length=D):
 Calls Tryz.prog 27 #[.pointer (some ⟨b,0,none⟩),.slice (some ⟨x.heap.size,0,none⟩) 2 2,.slice (some ⟨x.heap.size+1,0,none⟩) 3 3] ((x.alloc (.cells #[.string ⟨#[114,111,111,102]⟩,.string r.name] 9 (0,0))).alloc (.cells #[.int .i64 r.fro,.int .i64 r.til,.int .i64 r.most] 3 (0,0))) (Qo W b T (Q2 r) x):=by
 have e:([⟨#[114,111,111,102]⟩,r.name]:List ByteArray).map XV++nums [r.fro,r.til,r.most]=Q2 r:=by
  rw[List.map_cons,Xo0];rfl
 have K:=Xds st ht [⟨#[114,111,111,102]⟩,r.name] [r.fro,r.til,r.most] (by simp) (by simp) (λn hn=>by
  simp only[List.mem_cons,List.not_mem_nil,or_false] at hn;rcases hn with rfl|rfl|rfl
  all_goals assumption) (by simp) (by
  rw[e];simp only[List.length_append] at hsz ⊢
  omega)
 rw[e] at K;exact K
theorem XlT{W x:World}{b:Nat}{T R:List UInt8}{D:Nat}(st:TSt W b T x)(ht:J9 W)(i:Xu)(h0:I64 (i.place))(h1:I64 (i.width))(h2:I64 (i.weight))(h3:I64 (i.hang))(h4:I64 (i.front))(h5:I64 (i.back))(hD:D<=140737488355328)(hsz:(T++(Yv (QJ i)++R)).length=D):
 Calls Tryz.prog 27 #[.pointer (some ⟨b,0,none⟩),.slice (some ⟨x.heap.size,0,none⟩) 2 2,.slice (some ⟨x.heap.size+1,0,none⟩) 6 6] ((x.alloc (.cells #[.string ⟨#[105,116,101,109]⟩,.string i.name] 9 (0,0))).alloc (.cells #[.int .i64 i.place,.int .i64 i.width,.int .i64 i.weight,.int .i64 i.hang,.int .i64 i.front,.int .i64 i.back] 3 (0,0))) (Qo W b T (QJ i) x):=by
 have e:([⟨#[105,116,101,109]⟩,i.name]:List ByteArray).map XV++nums [i.place,i.width,i.weight,i.hang,i.front,i.back]=QJ i:=by
  rw[List.map_cons,Xo2];rfl
 have K:=Xds st ht [⟨#[105,116,101,109]⟩,i.name] [i.place,i.width,i.weight,i.hang,i.front,i.back] (by simp) (by simp) (λn hn=>by
  simp only[List.mem_cons,List.not_mem_nil,or_false] at hn;rcases hn with rfl|rfl|rfl|rfl|rfl|rfl
  all_goals assumption) (by simp) (by
  rw[e];simp only[List.length_append] at hsz ⊢
  omega)
 rw[e] at K;exact K
theorem XjH{W x:World}{b:Nat}{T R:List UInt8}{D:Nat}(st:TSt W b T x)(ht:J9 W)(i:Xo)(h0:I64 (i.weight))(h1:I64 (i.count))(hD:D<=140737488355328)(hsz:(T++(Yv (Y8 i)++R)).length=D):
 Calls Tryz.prog 27 #[.pointer (some ⟨b,0,none⟩),.slice (some ⟨x.heap.size,0,none⟩) 2 2,.slice (some ⟨x.heap.size+1,0,none⟩) 2 2] ((x.alloc (.cells #[.string ⟨#[98,114,105,99,107]⟩,.string i.name] 9 (0,0))).alloc (.cells #[.int .i64 i.weight,.int .i64 i.count] 3 (0,0))) (Qo W b T (Y8 i) x):=by
 have e:([⟨#[98,114,105,99,107]⟩,i.name]:List ByteArray).map XV++nums [i.weight,i.count]=Y8 i:=by
  rw[List.map_cons,Xnf];rfl
 have K:=Xds st ht [⟨#[98,114,105,99,107]⟩,i.name] [i.weight,i.count] (by simp) (by simp) (λn hn=>by
  simp only[List.mem_cons,List.not_mem_nil,or_false] at hn;rcases hn with rfl|rfl
  all_goals assumption) (by simp) (by
  rw[e];simp only[List.length_append] at hsz ⊢
  omega)
 rw[e] at K;exact K
theorem XcI{W x:World}{b:Nat}{T R:List UInt8}{D:Nat}(st:TSt W b T x)(ht:J9 W)(m:Xw)(h0:I64 (m.to))(h1:I64 (m.aK))(h2:I64 (m.rise))(h3:I64 (m.fall))(hD:D<=140737488355328)(hsz:(T++(Yv (Zx m)++R)).length=D):
 Calls Tryz.prog 27 #[.pointer (some ⟨b,0,none⟩),.slice (some ⟨x.heap.size,0,none⟩) 2 2,.slice (some ⟨x.heap.size+1,0,none⟩) 4 4] ((x.alloc (.cells #[.string ⟨#[109,111,118,101]⟩,.string m.set] 9 (0,0))).alloc (.cells #[.int .i64 m.to,.int .i64 m.aK,.int .i64 m.rise,.int .i64 m.fall] 3 (0,0))) (Qo W b T (Zx m) x):=by
 have e:([⟨#[109,111,118,101]⟩,m.set]:List ByteArray).map XV++nums [m.to,m.aK,m.rise,m.fall]=Zx m:=by
  rw[List.map_cons,Xo1];rfl
 have K:=Xds st ht [⟨#[109,111,118,101]⟩,m.set] [m.to,m.aK,m.rise,m.fall] (by simp) (by simp) (λn hn=>by
  simp only[List.mem_cons,List.not_mem_nil,or_false] at hn;rcases hn with rfl|rfl|rfl|rfl
  all_goals assumption) (by simp) (by
  rw[e];simp only[List.length_append] at hsz ⊢
  omega)
 rw[e] at K;exact K
theorem XjI{W x:World}{b:Nat}{T R:List UInt8}{D:Nat}(st:TSt W b T x)(ht:J9 W)(p:ByteArray×ByteArray)(hD:D<=140737488355328)(hsz:(T++(Yv (Yx p)++R)).length=D):
 Calls Tryz.prog 27 #[.pointer (some ⟨b,0,none⟩),.slice (some ⟨x.heap.size,0,none⟩) 3 3,.slice none 0 0] (x.alloc (.cells #[.string ⟨#[97,112,97,114,116]⟩,.string p.1,.string p.2] 9 (0,0))) (Qo W b T (Yx p) x):=by
 have e:([⟨#[97,112,97,114,116]⟩,p.1,p.2]:List ByteArray).map XV=Yx p:=by
  rw[List.map_cons,Xng];rfl
 have K:=Xro st ht [⟨#[97,112,97,114,116]⟩,p.1,p.2] (by simp) (by simp) (by
  rw[e];simp only[List.length_append] at hsz ⊢
  omega)
 rw[e] at K;exact K
end Go.Proofs.YtdcahhbipeaggaaGreatDoor
namespace Go.Proofs.YtdcahhbipeaggaaGreatDoor
open Go Go.RowKit
theorem Xiq{W x:World}{b base:Nat}{T:List UInt8}{v:Value}(st:TSt W b T x)(ht:J9 W)(ws:List ByteArray)(l:List Int)(hC:x.ownsRow base 9 1 v ws.length (ws.map Value.string))(hD:W.heap.size<=base)(hK:base<=x.heap.size)(hG:0<ws.length)(hw:ws.length<=1000)(hl:∀n∈l,I64 n)(hH:l.length<=1000)(hsz:T.length+(Yv (ws.map XV++nums l)).length<=140737488355328):
 Calls Tryz.prog 27 #[.pointer (some ⟨b,0,none⟩),v,.slice (some ⟨x.heap.size,0,none⟩) l.length l.length] (x.alloc (.cells (l.map (Value.int .i64)).toArray 3 (0,0))) (Qo W b T (ws.map XV++nums l) x):=by
 obtain⟨V,hV,hL,hE,hI⟩:=boxed x (.cells (l.map (Value.int .i64)).toArray 3 (0,0));rw[<-hV]
 refine(Xab (base:=base) (st.more hE) ht (J1 hC hE) hD (by omega) hG (XhX l hH hI) (λp hp hk=>by
  have hJ:=Option.some.inj hp;subst hJ;have:=(World.ownsRow.lt hC _ hk).2;simp only at this
  omega) hl (by omega) (by rw[Q6];exact hsz)).mono ?_
 rintro e w' ⟨h1,h2,h3⟩;rw[Q6] at h2;exact⟨h1,h2,(Za.below hE).trans h3⟩
def Xda:ByteArray:=⟨#[109,97,110,117,97,108]⟩
def Xdb:ByteArray:=⟨#[102,111,108,108,111,119]⟩
def Xh8:ByteArray:=⟨#[119,105,116,104]⟩
theorem XlM:XV Xda=.wd QY:=by
 have e:bs Xda=QY:=by kernel_rfl
 rw[XV,e]
theorem XlN:XV Xdb=.wd Jo:=by
 have e:bs Xdb=Jo:=by kernel_rfl
 rw[XV,e]
theorem XoZ:XV Xh8=.wd Xkh:=by
 have e:bs Xh8=Xkh:=by kernel_rfl
 rw[XV,e]
def Xdt(link:Int)(after:ByteArray):List ByteArray:=if link=1 then [Xda] else if link=2 then [Xdb,after] else [Xh8,after]
theorem XaS(q:XW):([(⟨#[99,117,101]⟩:ByteArray),q.name]++Xdt q.link q.after).map XV++nums [q.aL,q.crew,q.power]=XeG q:=by
 rw[List.map_append,List.map_cons,Xrj];unfold XeG Xdt Xdu;split
 ·simp[XlM]
 ·split
  ·simp[XlN]
  ·simp[XoZ]
end Go.Proofs.YtdcahhbipeaggaaGreatDoor
namespace Go.Proofs.YtdcahhbipeaggaaGreatDoor
open Go.RowKit
theorem TSt.buf{W x:World}{b:Nat}{T:List UInt8}(st:TSt W b T x):∃p A cap,x.heap[b]? =some (.cells #[p,.slice A T.length cap] 82 (0,0))/\x.ownsRow b 5 1 (.slice A T.length cap) T.length (Lib.byteCells T):=by
 have key:∀p,Lib.BuilderAt 82 5 b b p (Lib.byteCells T) x->∃p A cap,x.heap[b]? =some (.cells #[p,.slice A T.length cap] 82 (0,0))/\x.ownsRow b 5 1 (.slice A T.length cap) T.length (Lib.byteCells T):=λp h=>by
  obtain⟨hB,v,hD,hC,hE⟩:=h;rw[Lib.byteCells_length] at hC;rcases hC.2 with ⟨hv,h0⟩|⟨g,cap,cur,hv,r⟩
  ·rw[hv] at hD hC;refine⟨p,none,0,?_,?_⟩
   ·rw[h0];exact hD
   ·have h:=hC;rw[h0] at h ⊢;exact h
  ·rw[hv] at hD hC;exact⟨p,_,cap,hD,hC⟩
 rcases st.ib with h|h
 ·exact key _ h
 ·exact key _ h
theorem Xs8{W x:World}{b:Nat}{T:List UInt8}(st:TSt W b T x):Calls Tryz.prog 28 #[.pointer (some ⟨b,0,none⟩)] x (Xc x (.int .i64 T.length)):=by
 obtain⟨p,A,cap,hb,_⟩:=st.buf;have c1:x.cell? ⟨b,1,none⟩=some (.slice A T.length cap):=(Joins.cell_of_block hb 1).trans rfl;go_enter Tryz.func28,Tryz.ntmps28;go_wp2;go_ret;exact Xc.mk rfl brf
theorem XmM{W x:World}{b:Nat}{T:List UInt8}(st:TSt W b T x)(h0:T≠[]):Calls Tryz.prog 29 #[.pointer (some ⟨b,0,none⟩)] x λe w'=>e=.returned (.string ⟨T.toArray⟩)/\Below b x w':=by
 obtain⟨p,A,cap0,hD,hC⟩:=st.buf;have hG:T.length≠0:=by simpa using h0
 obtain⟨g,cap,cur,hv,hH,hg,hK,hI,hL,hE⟩:∃g cap cur,Value.slice A T.length cap0=.slice (some ⟨g,0,none⟩) T.length cap/\b<=g/\x.heap[g]? =some (.cells cur 5 (0,0))/\T.length<=cap/\cap<=maxLen/\cur.size=cap*1/\cur.toList.take (T.length*1)=Lib.byteCells T:=by
  rcases hC.2 with ⟨_,hz⟩|⟨g,cap,cur,hv,r⟩
  ·exact absurd hz hG
  ·exact⟨g,cap,cur,hv,r⟩
 rw[hv] at hD hC;have c1:x.drew.cell? ⟨b,1,none⟩=some (.slice (some ⟨g,0,none⟩) T.length cap):=by
  have:x.drew.heap[b]? =some (.cells #[p,.slice (some ⟨g,0,none⟩) T.length cap] 82 (0,0)):=hD;rw[Lib.cell_of_heap this];rfl
 have hM:(Builtin.unsafeSliceData_ #[78] 167 #[.slice (some ⟨g,0,none⟩) T.length cap]).run Tryz.prog x.drew=.ok (.pointer (some ⟨g,0,none⟩)) x.drew:=
  Lib.run_unsafeSliceData_row _ _ _ _ _ _ (by omega)
 have hN:(Builtin.unsafeString_ #[167,3] 9 #[.pointer (some ⟨g,0,none⟩),.int .i64 T.length]).run Tryz.prog x.drew=.ok (.string ⟨T.toArray⟩) (x.drew.freeze ⟨g,0,none⟩ T.length):=by
  refine Lib.run_unsafeString_row x.drew 167 3 9 5 Tryz.underlying167 (by kernel_rfl) g cur.size (by have hJ:x.drew.heap[g]? =some (.cells cur 5 (0,0)):=hg;simp[World.shape?,hJ]) T h0 (by omega) (by unfold maxLen at hI;omega) ?_;intro j y hy;have:=hC.cells (g:=g) rfl j (.int .u8 y.toNat) (by simp[Lib.byteCells,hy]);exact this
 go_enter Tryz.func29,Tryz.ntmps29;go_wp2;go_region
 all_goals
  go_wp2;go_ret;exact⟨rfl,Lib.below_freeze (Below.drew (Below.refl b x)) (p:=⟨g,0,none⟩) hH _⟩
end Go.Proofs.YtdcahhbipeaggaaGreatDoor
namespace Go.Proofs.YtdcahhbipeaggaaGreatDoor
open Go.RowKit
theorem Xrq{h:Xf}(hv:Xv h=true):∀s∈h.aA.l,2<=s.aG.l.length/\s.aG.l.length<=10:=by
 intro s hs;rw[Xv,bae] at hv;obtain⟨j,hj,e⟩:=List.getElem_of_mem hs;have h1:=XJ.1 hv.2 j s (by rw[lgE hj,e]);simp only[setAt,X0,YC,Xg,bae,decide_eq_true_eq] at h1;omega
end Go.Proofs.YtdcahhbipeaggaaGreatDoor
namespace Go.Proofs.YtdcahhbipeaggaaGreatDoor
open Go Go.RowKit
theorem XkV:∀l:List Int,l.flatMap Xj=l.map (Value.int .i64)
 |[]=>rfl
 |x::l=>by rw[List.flatMap_cons,XkV l];rfl
theorem XqW{W x:World}{b base base2:Nat}{T:List UInt8}{v:Value}{A:Option Addr}{cap:Nat}(st:TSt W b T x)(ht:J9 W)(ws:List ByteArray)(l:List Int)(hD:x.ownsRow base 9 1 v ws.length (ws.map Value.string))(hE:W.heap.size<=base)(hH:base<=x.heap.size)(hI:0<ws.length)(hw:ws.length<=1000)(hC:x.ownsRow base2 3 1 (.slice A l.length cap) l.length (l.map (Value.int .i64)))(hl:∀n∈l,I64 n)(hJ:l.length<=1000)(hsz:T.length+(Yv (ws.map XV++nums l)).length<=140737488355328):
 Calls Tryz.prog 27 #[.pointer (some ⟨b,0,none⟩),v,.slice A l.length cap] x (Qo W b T (ws.map XV++nums l) x):=by
 refine(Xab st ht hD hE hH hI (Jq (s:=⟨A,cap,l⟩) (cells:=Xj) (e:=3) (base:=base2) (λ_=>rfl) (by rw[XkV];exact hC)) (λp hp hk=> ?_) hl (by omega) (by rw[Q6];exact hsz)).mono ?_
 ·obtain⟨_,cur,hc⟩:=Qc hD hk;subst hp;have hA:(Value.slice (some p) l.length cap).ownBlock=some p.block:=by
   rcases hC.2 with ⟨h,_⟩|⟨g,c,cur2,h,_⟩
   ·cases h
   ·simp only[Value.slice.injEq,Option.some.injEq] at h;rw[h.1];simp[Value.ownBlock]
  obtain⟨_,cur2,hG⟩:=Qc hC hA;rw[hc] at hG;simp at hG
 ·rintro e w' ⟨h1,h2,h3⟩;rw[Q6] at h2;exact⟨h1,h2,h3⟩
theorem Xb8{x y:World}{base:Nat}{size:Nat}{v:Value}{n:Nat}{xs:List Value}(hC:x.ownsRow base 3 size v n xs)(hg:x.grownBy y v.ownBlock)(k:Nat)(cs:Array Value)(t:TypeId)(fr:Nat×Nat)(h3:t≠3)(h4:x.heap[k]? =some (.cells cs t fr)):y.heap[k]? =some (.cells cs t fr):=by
 refine(hg.block k (agS h4).1 λe=> ?_).trans h4;obtain⟨_,cur,hc⟩:=Qc hC e.symm;rw[hc] at h4;injection h4 with h4;injection h4 with _ h5;exact h3 h5.symm
theorem TSt.growI{W x y:World}{b:Nat}{T:List UInt8}{base:Nat}{size:Nat}{v:Value}{n:Nat}{xs:List Value}(h:TSt W b T x)(hC:x.ownsRow base 3 size v n xs)(hb:W.heap.size<=base)(hg:x.grownBy y v.ownBlock):TSt W b T y:=by
 have key:=Xb8 hC hg;have at_:∀p,Lib.BuilderAt 82 5 b b p (Lib.byteCells T) x->Lib.BuilderAt 82 5 b b p (Lib.byteCells T) y:=λp hp=>by
  obtain⟨hB,v',hD,ho,hE⟩:=hp;refine⟨hB,v',key b _ _ _ (by decide) hD,XaP ho (λg hG=> ?_),hE⟩;obtain⟨_,cur,hc⟩:=Qc ho hG;rw[hc];exact key g _ _ _ (by decide) hc
 refine⟨?_,Below.grown h.bel hg h.bel.size (λk hk=>Nat.le_trans hb (Qc hC hk).1),h.le,Nat.lt_of_lt_of_le h.lt hg.size⟩;rcases h.ib with h1|h1
 ·exact Or.inl (at_ _ h1)
 ·exact Or.inr (at_ _ h1)
theorem Xpb{w:World}{B cap:Nat}{a:Addr}{l:List Int}(h:XA w B 1 Xj ⟨some a,cap,l⟩):∀q u,(l.map (Value.int .i64))[q]? =some u->w.cell? (a.add q)=some u:=λq u hq=>by
 rw[List.getElem?_map] at hq;obtain⟨x,hx,rfl⟩:=Option.map_eq_some_iff.1 hq;have h0:0<l.length:=Nat.lt_of_le_of_lt nzl (lgS hx).1;obtain⟨b,off,e,_,hc⟩:=h.2.2 h0;injection e with e;subst e;have h2:=hc q x hx 0 _ rfl;rw[show(⟨b,off,none⟩:Addr).add q=⟨b,off+(q*1+0),none⟩ by unfold Addr.add;split<;>simp_all];exact h2
theorem Xkr{W x y:World}{b:Nat}{T:List UInt8}{v vn:Value}{n m:Nat}{us xs:List Value}(st:TSt W b T x)(hw:x.ownsRow W.heap.size 9 1 v n us)(hC:x.ownsRow W.heap.size 3 1 vn m xs)(hg:x.grownBy y vn.ownBlock):TSt W b T y/\y.ownsRow W.heap.size 9 1 v n us:=
 ⟨st.growI hC nr hg,XaP hw (λg hD=>by
  obtain⟨_,cur,hc⟩:=Qc hw hD;rw[hc]
  exact Xb8 hC hg g _ _ _ (by decide) hc)⟩
theorem Xl1:(Tryz.prog.info? 3).map (λi=>(i.zero,i.size,i.bytes))=some (some (.int .i64 0),1,8):=by kernel_rfl
theorem Xkq(s:Yi):[(⟨#[115,101,116]⟩:ByteArray),s.name].map XV++nums ([s.depth,s.low,s.high,s.length,s.aM,s.aN,s.aI,s.most,s.aJ]++s.aG)=Xfw s:=by
 rw[List.map_cons,Xri];rfl
end Go.Proofs.YtdcahhbipeaggaaGreatDoor
namespace Go.Proofs.YtdcahhbipeaggaaGreatDoor
open Go.RowKit
def Xe6(lo hi:Int)(p:Int):Bool:=decide (lo<=p)&&decide (p<hi)
def Xe4(lo hi:Int)(i:Xu):Bool:=decide (i.place<hi)&&decide (lo<i.place+i.width)
def Xek(s:Xd)(lo hi:Int):Int:=if s.aG.l.any (Xe6 lo hi) then 3 else if s.aF.l.any (Xe4 lo hi) then 2 else if lo<=s.length then 1 else 0
def Xud(s:Xd):Prop:=∀i∈s.aF.l,0<=i.place/\i.place<=1048576/\0<=i.width/\i.width<=1048576
theorem Xmi:∀args w,(callFunc 96 args).run Tryz.prog w=.ok (.enter 96 args) w:=XZ Tryz.func96 (by kernel_rfl) rfl
theorem Xmh:∀args w,(callFunc 98 args).run Tryz.prog w=.ok (.enter 98 args) w:=XZ Tryz.func98 (by kernel_rfl) rfl
theorem Xq4(p lo hi:Int)(b1 b2:Addr)(w:World)(h1:w.cell? b1=some (.int .i64 lo))(h2:w.cell? b2=some (.int .i64 hi)):
 Calls Tryz.prog 96 #[.int .i64 p,.pointer (some b1),.pointer (some b2)] w (Xc w (.bool (Xe6 lo hi p))):=by
 by_cases g1:lo<=p
 all_goals by_cases g2:p<hi
 all_goals
  go_enter Tryz.func96,Tryz.ntmps96;go_wp2;go_ret;exact Xc.mk (by simp[Xe6,g1,g2]) brf
theorem Xq3(i:Xu)(lo hi:Int)(b1 b2:Addr)(w:World)(hC:b1.block<w.heap.size)(hD:b2.block<w.heap.size)(h1:w.cell? b1=some (.int .i64 lo))(h2:w.cell? b2=some (.int .i64 hi))
 (p0:0<=i.place) (p1:i.place<=1048576) (q0:0<=i.width) (q1:i.width<=1048576):
 Calls Tryz.prog 98 #[.agg #[.string i.name,.int .i64 i.place,.int .i64 i.width,.int .i64 i.weight,.int .i64 i.hang,.int .i64 i.front,.int .i64 i.back],.pointer (some b2),.pointer (some b1)] w (Xc w (.bool (Xe4 lo hi i))):=by
 have c1:∀o:Obj,(w.alloc o).cell? b1=some (.int .i64 lo):=λo=>by rw[World.cell?_alloc_lt w o b1 hC];exact h1
 have c2:∀o:Obj,(w.alloc o).cell? b2=some (.int .i64 hi):=λo=>by rw[World.cell?_alloc_lt w o b2 hD];exact h2
 by_cases g1:i.place<hi
 all_goals by_cases g2:lo<i.place+i.width
 all_goals
  go_enter Tryz.func98,Tryz.ntmps98;go_wp2;go_ret;exact Xc.mk (by simp[Xe4,g1,g2]) (brf.alloc nr _)
theorem XsM(s:Xd)(hp:Xud s)(scale c:Int)(pC:1<=scale)(hM:scale<=1048576)(hY:0<=c)(hZ:c<=1048576)(w:World)(B:Nat)(hB:B<=w.heap.size)(hN:Xd.at_ w B s):
 Calls Tryz.prog 46 #[.agg #[.string s.name,.int .i64 s.depth,.int .i64 s.low,.int .i64 s.high,.int .i64 s.length,.slice s.aG.A s.aG.l.length s.aG.cap,.int .i64 s.aM,.int .i64 s.aN,.int .i64 s.aI,.int .i64 s.most,.int .i64 s.aJ,.slice s.aF.A s.aF.l.length s.aF.cap,.slice s.aE.A s.aE.l.length s.aE.cap],.int .i64 scale,.int .i64 c] w (Xc w (.int .i64 (Xek s (c*scale) ((c+1)*scale)))):=by
 have m1:0<=c*scale:=Int.mul_nonneg hY (by omega);have m2:c*scale<=1048576*1048576:=Int.mul_le_mul hZ hM (by omega) (by omega);have m3:0<=(c+1)*scale:=Int.mul_nonneg (by omega) (by omega);have m4:(c+1)*scale<=1048577*1048576:=Int.mul_le_mul (by omega) hM (by omega) (by omega);generalize pA:c*scale=lo at*;generalize pB:(c+1)*scale=hi at*;obtain⟨W1,hO,hC,hP,hQ⟩:=bxst w s
 obtain⟨W2,hI,hE,hR,hT⟩:=boxed W1 (.cells #[.int .i64 lo] 3);obtain⟨W,hW,hJ,hU,hV⟩:=boxed W2 (.cells #[.int .i64 hi] 3);have hb:Below w.heap.size w W:=hP.trans ((hR.trans (hU.mono (by omega))).mono (by omega));have hG:W.heap[w.heap.size]? =some (.cells #[.string s.name,.int .i64 s.depth,.int .i64 s.low,.int .i64 s.high,.int .i64 s.length,.slice s.aG.A s.aG.l.length s.aG.cap,.int .i64 s.aM,.int .i64 s.aN,.int .i64 s.aI,.int .i64 s.most,.int .i64 s.aJ,.slice s.aF.A s.aF.l.length s.aF.cap,.slice s.aE.A s.aE.l.length s.aE.cap] 57 (0,0)):=by rw[hW,Lib.alloc_old _ _ _ (by omega),hI,Lib.alloc_old _ _ _ (by omega)];exact hQ
 have hH:W.heap[W1.heap.size]? =some (.cells #[.int .i64 lo] 3 (0,0)):=by rw[hW,Lib.alloc_old _ _ _ (by omega)];exact hT
 have hc:=λx:Xb W.heap.size W=>Xd.boxed hG (by omega) x;have cl:∀x:Xb W.heap.size W,x.val.cell? ⟨w.heap.size+1,0,none⟩=some (.int .i64 lo):=λx=>by rw[<-hC];exact x.cells hH (by omega) 0 _ rfl
 have ch:∀x:Xb W.heap.size W,x.val.cell? ⟨w.heap.size+1+1,0,none⟩=some (.int .i64 hi):=λx=>by rw[<-hC,<-hE];exact x.cells hV (by omega) 0 _ rfl
 have hK:w.heap.size+1+1<W.heap.size:=by omega
 have hD:Xd.at_ W W.heap.size s:=hN.to (hb.mono hB) (by omega);have hX:=bdo hb;have k1:∀x:Xb W.heap.size W,Calls Tryz.prog 95 #[.slice s.aG.A s.aG.l.length s.aG.cap,.func (.func 96) #[] #[.pointer (some ⟨w.heap.size+1,0,none⟩),.pointer (some ⟨w.heap.size+1+1,0,none⟩)]] x.val (Xc x.val (.bool (s.aG.l.any (Xe6 lo hi)))):=λx=>
  ZQ _ _ _ (Xe6 lo hi) _ _ Xmi x.val x.val.heap.size nr (hD.to x.below x.size).aG (λy e _=>by
   rw[XsT];exact Xq4 e lo hi _ _ y.val ((y.below.cell (Nat.lt_of_lt_of_le (show w.heap.size+1<W.heap.size by omega) x.size)).trans (cl x)) ((y.below.cell (Nat.lt_of_lt_of_le hK x.size)).trans (ch x)))
 have k2:∀x:Xb W.heap.size W,Calls Tryz.prog 97 #[.slice s.aF.A s.aF.l.length s.aF.cap,.func (.func 98) #[] #[.pointer (some ⟨w.heap.size+1+1,0,none⟩),.pointer (some ⟨w.heap.size+1,0,none⟩)]] x.val (Xc x.val (.bool (s.aF.l.any (Xe4 lo hi)))):=λx=>
  Xcd _ _ _ (Xe4 lo hi) _ _ Xmh x.val x.val.heap.size nr (hD.to x.below x.size).aF (λy e he=>by
   obtain⟨p0,p1,q0,q1⟩:=hp e he;have:=x.size;have:=y.size
   rw[XsT];exact Xq3 e lo hi _ _ y.val (by simp only;omega) (by simp only;omega) ((y.below.cell (Nat.lt_of_lt_of_le (show w.heap.size+1<W.heap.size by omega) x.size)).trans (cl x)) ((y.below.cell (Nat.lt_of_lt_of_le hK x.size)).trans (ch x)) p0 p1 q0 q1)
 have K1:=Xa λx=>Xc.after nr (k1 x);have K2:=Xa λx=>Xc.after nr (k2 x);have HW:=Xa (show W=((w.alloc (.cells #[.string s.name,.int .i64 s.depth,.int .i64 s.low,.int .i64 s.high,.int .i64 s.length,.slice s.aG.A s.aG.l.length s.aG.cap,.int .i64 s.aM,.int .i64 s.aN,.int .i64 s.aI,.int .i64 s.most,.int .i64 s.aJ,.slice s.aF.A s.aF.l.length s.aF.cap,.slice s.aE.A s.aE.l.length s.aE.cap] 57)).alloc (.cells #[.int .i64 lo] 3)).alloc (.cells #[.int .i64 hi] 3) by rw[hW,hI,hO]);have hL:=Xa hX;have HE:=Xa (show Xek s lo hi=(if s.aG.l.any (Xe6 lo hi) then 3 else if s.aF.l.any (Xe4 lo hi) then 2 else if lo<=s.length then 1 else 0) from rfl)
 clear hO hI hW hC hE hJ hP hR hU hQ hT hV hb hG hH hD hX k1 k2 hK hN hp;subst pA;subst pB;generalize s.aG.l.any (Xe6 (c*scale) ((c+1)*scale))=l1 at*;generalize s.aF.l.any (Xe4 (c*scale) ((c+1)*scale))=l2 at*;cases l1
 ·cases l2
  ·by_cases g:c*scale<=s.length
   all_goals
    go_enter Tryz.func46,Tryz.ntmps46;go_wp2_with fail;rw[<-HW.out];refine(K1.out (Xb.refl _ W)).mono ?_;rintro e w' ⟨rfl,x,rfl⟩;go_wp2_with fail;refine(K2.out x).mono ?_;rintro e w' ⟨rfl,x,rfl⟩;go_wp2;go_ret;refine Xc.mk ?_ (hL.out _);rw[HE.out];simp[g]
  ·go_enter Tryz.func46,Tryz.ntmps46;go_wp2_with fail;rw[<-HW.out];refine(K1.out (Xb.refl _ W)).mono ?_;rintro e w' ⟨rfl,x,rfl⟩;go_wp2_with fail;refine(K2.out x).mono ?_;rintro e w' ⟨rfl,x,rfl⟩;go_wp2;go_ret;refine Xc.mk ?_ (hL.out _);rw[HE.out];rfl
 ·go_enter Tryz.func46,Tryz.ntmps46;go_wp2_with fail;rw[<-HW.out];refine(K1.out (Xb.refl _ W)).mono ?_;rintro e w' ⟨rfl,x,rfl⟩;go_wp2;go_ret;refine Xc.mk ?_ (hL.out _);rw[HE.out];rfl
end Go.Proofs.YtdcahhbipeaggaaGreatDoor
namespace Go.Proofs.YtdcahhbipeaggaaGreatDoor
open Go.RowKit Go.ChangeShapes Go.WideShapes Go.Deep
section
variable {H:Type} {enc:TypeId×Value->H} {w:World}
theorem XtS:XdW enc w 72 5 Xw.cells (λx=>x.ok):=λn cs y hl h=>by
 obtain⟨xs,n',_,_,_,hlen,hg⟩:=DataW.trod_struct Tryz.underlying72 h
 match cs,hl with
 |[c0,c1,c2,c3,c4],_=>
  obtain⟨_,t0⟩:=XB (by kernel_rfl) hlen hg 0 _ rfl c0 rfl;obtain⟨_,t1⟩:=XB (by kernel_rfl) hlen hg 1 _ rfl c1 rfl;obtain⟨_,t2⟩:=XB (by kernel_rfl) hlen hg 2 _ rfl c2 rfl;obtain⟨_,t3⟩:=XB (by kernel_rfl) hlen hg 3 _ rfl c3 rfl;obtain⟨_,t4⟩:=XB (by kernel_rfl) hlen hg 4 _ rfl c4 rfl;obtain⟨s0,rfl,b0⟩:=Zd t0;obtain⟨s1,rfl,b1⟩:=X4 t1;obtain⟨s2,rfl,b2⟩:=X4 t2;obtain⟨s3,rfl,b3⟩:=X4 t3;obtain⟨s4,rfl,b4⟩:=X4 t4;exact⟨⟨s0,s1,s2,s3,s4⟩,rfl,⟨b0,b1,b2,b3,b4⟩⟩
theorem Xu6:XdW enc w 70 7 Xn.cells (λx=>x.ok/\Xn.at_ w w.heap.size x):=λn cs y hl h=>by
 obtain⟨xs,n',_,_,_,hlen,hg⟩:=DataW.trod_struct Tryz.underlying70 h
 match cs,hl with
 |[c0,c1,c2,c3,c4,c5,c6],_=>
  obtain⟨_,t0⟩:=XB (by kernel_rfl) hlen hg 0 _ rfl c0 rfl;obtain⟨_,t1⟩:=XB (by kernel_rfl) hlen hg 1 _ rfl c1 rfl;obtain⟨_,t2⟩:=XB (by kernel_rfl) hlen hg 2 _ rfl c2 rfl;obtain⟨_,t3⟩:=XB (by kernel_rfl) hlen hg 3 _ rfl c3 rfl;obtain⟨_,t4⟩:=XB (by kernel_rfl) hlen hg 4 _ rfl c4 rfl;obtain⟨_,t5⟩:=XB (by kernel_rfl) hlen hg 5 _ rfl c5 rfl;obtain⟨_,t6⟩:=XB (by kernel_rfl) hlen hg 6 _ rfl c6 rfl;obtain⟨s0,rfl,b0⟩:=Zd t0;obtain⟨s1,rfl,b1⟩:=Zd t1;obtain⟨s2,rfl,b2⟩:=X4 t2;obtain⟨s3,rfl,b3⟩:=X4 t3;obtain⟨s4,rfl,a4,b4⟩:=Je (size:=5) (cells:=Xw.cells) Tryz.underlying68 (by kernel_rfl) (by decide) (λ_=>rfl) XtS t4
  obtain⟨s5,rfl,b5⟩:=X4 t5;obtain⟨s6,rfl,b6⟩:=X4 t6;exact⟨⟨s0,s1,s2,s3,s4,s5,s6⟩,rfl,⟨b0,b1,b2,b3,b4,b5,b6⟩,⟨a4⟩⟩
theorem XtR:XdW enc w 73 2 X5 (λx=>x.1.size<=maxLen/\x.2.size<=maxLen):=λn cs y hl h=>by
 obtain⟨xs,m,_,_,_,hlen,hg⟩:=DataW.trod_array Tryz.underlying73 h
 match cs,hl with
 |[c0,c1],_=>
  have e1:Tryz.prog.cellsOf 9=1:=by kernel_rfl
  have g0:=hg 0 (by omega);have g1:=hg 1 (by omega);rw[e1,lgE (by omega)] at g0 g1;obtain⟨s0,rfl,b0⟩:=Zd (c:=c0) g0;obtain⟨s1,rfl,b1⟩:=Zd (c:=c1) g1;exact⟨(s0,s1),rfl,b0,b1⟩
theorem XqZ{r:Reach}{b0:Nat}{v:Value}{d:DataW H}{p:List MemPlace}(hv:Value.okWide Tryz.prog w r b0 29 v)(h:DataW.Trod enc Tryz.prog w 0 (λ_=>true) true 29 v d p):
 ∃s:Xq,v=.agg #[.slice s.aC.A s.aC.l.length s.aC.cap,.slice s.apart.A s.apart.l.length s.apart.cap]/\s.ok/\Xq.at_ w w.heap.size s:=by
 obtain⟨cs,rfl,hsz⟩:=okWide_struct Tryz.underlying29 hv;obtain⟨cs⟩:=cs;obtain⟨fuel,hf⟩:=h;obtain⟨xs,n',_,_,_,hlen,hg⟩:=DataW.trod_struct Tryz.underlying29 hf
 match cs,hsz.trans (show Tryz.prog.cellsOf 29=2 by kernel_rfl) with
 |[c0,c1],_=>
  obtain⟨_,t0⟩:=XB (by kernel_rfl) hlen hg 0 _ rfl c0 rfl;obtain⟨_,t1⟩:=XB (by kernel_rfl) hlen hg 1 _ rfl c1 rfl;obtain⟨s0,rfl,a0,b0⟩:=Je (size:=7) (cells:=Xn.cells) Tryz.underlying26 (by kernel_rfl) (by omega) (λ_=>rfl) Xu6 t0;obtain⟨s1,rfl,a1,b1⟩:=Je (size:=2) (cells:=X5) Tryz.underlying27 (by kernel_rfl) (by omega) (λ_=>rfl) XtR t1;exact⟨⟨s0,s1⟩,rfl,⟨λq hq=>(b0 q hq).1,b1⟩,⟨a0,λq hq=>(b0 q hq).2,a1⟩⟩
end
end Go.Proofs.YtdcahhbipeaggaaGreatDoor
namespace Go.Proofs.YtdcahhbipeaggaaGreatDoor
open Go.ChangeShapes Go.WideShapes Go.ChangeAt Go.RowKit
section
variable {H:Type} {enc:TypeId×Value->H}
theorem XmY{a:Assume}{C:Checked}{os:Os}{f:FuncId}{fn:Func}{s:ChangeSpec}{conds:List PathCond}{apart fresh hC again:Bool}{X:World->Array Value->Prop}
 (hX:∀(w w':World) (args:Array Value),w.heap=w'.heap->X w args->X w' args)
 (own:ownKnob C.prog.godebug=none) (started:os.Started) (noInit:C.prog.inits.idxOf? f=none) (hG:C.prog.funcs[f]? =some fn)
 (witness:∃(w:World) (tape:Tape) (i:Input),w.os=os/\(w.forCall tape i).Shaped C.prog/\i.vars=[]/\Input.okWide C.prog (w.forCall tape i) .any w.heap.size f i/\
   ((s.pre enc C.prog fn conds apart (w.forCall tape i).memory i.args/\X (w.forCall tape i).memory i.args)/\sizedMet enc C.prog fn (OpenSpec.ofChange s) apart (w.forCall tape i).memory i.args)/\a.holds C.prog (lone (Frame.enter C.prog f i.args .normal) [] (w.forCall tape i)))
 (contract:∀(W:World) (base:Nat) (args:Array Value) (ds gs:List (DataW H)) (before:List MemPlace),
   (∀(j:Nat) t v,fn.params[j]? =some t->args[j]? =some v->Value.okWide C.prog W .any base t v)->
   DataW.Whole enc C.prog fn.params.toList s.vars apart W args.toList ds gs before->X W args->W.ShapedOpen C.prog->
   Calls C.prog f args W λe W'=>∃v,e=.returned v/\s.post enc C.prog fn apart fresh hC again W args v W'):
 ReturnsInHanded a C os f .any (λw args=>(s.pre enc C.prog fn conds apart w args/\X w args)/\sizedMet enc C.prog fn (OpenSpec.ofChange s) apart w args) (s.post enc C.prog fn apart fresh hC again):=by
 refine returnsInHanded_of_calls own started noInit witness ?_;intro w tape i _ hH _ hI hpre _;obtain⟨_,_,_,fn',hD,_,_,_,_,hE⟩:=hI;have e:fn'=fn:=Option.some.inj (hD.symm.trans hG);subst e;obtain⟨⟨⟨ds,gs,before,hw,_⟩,hx⟩,_⟩:=hpre;have hJ:=DataW.Whole.of_heap (w':=w.forCall tape i) (by rfl) hw;refine(contract (w.forCall tape i) w.heap.size i.args ds gs before hE hJ (hX _ _ _ (by rfl) hx) hH).mono λe W' ⟨v,he,hp⟩=> ?_;subst he;exact ChangeSpec.post_blind hp
end
end Go.Proofs.YtdcahhbipeaggaaGreatDoor
