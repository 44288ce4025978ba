/- Lemmas for TopPrinted: SetOf, Builder, String, ReadHouse. -/
import Derived.Test.YtdcahhbipeaggaaGreatDoorDecTokens
import Derived.Lib.Builder
import Derived.Lib.Walk
import Derived.Laws.Externs
import Derived.Laws.IdiomCopy
import Derived.Shelf.Strings.Builder1
import Derived.Deep.Slices
import Derived.Deep.Fields
import Derived.ChangeSame
import Derived.ChangeArms
set_option maxRecDepth 100000
set_option maxHeartbeats 16000000
namespace Go.Proofs.YtdcahhbipeaggaaGreatDoor
open Go.RowKit
theorem Xks{h:Xf}(hh:Xv h=true){s:Xd}(hs:s∈h.aA.l):X0 s=true:=by
 rw[Xv,bae] at hh;obtain⟨j,hj,e⟩:=List.getElem_of_mem hs;have h1:=XJ.1 hh.2 j s (by rw[lgE hj,e]);rw[setAt,bae,bae] at h1;exact h1.1.1
end Go.Proofs.YtdcahhbipeaggaaGreatDoor
namespace Go.Proofs.YtdcahhbipeaggaaGreatDoor
open Go.RowKit
theorem sizeBuilder:(Tryz.prog.info? 80).map (·.size)=some 2:=by kernel_rfl
theorem liesBuilder:liesAt Tryz.prog Tryz.prog.depth 80 (2/Tryz.prog.cellsOf 80) 0 80 1=true:=by kernel_rfl
theorem infoByte:(Tryz.prog.info? 5).map (λi=>(i.zero,i.size,i.bytes))=some (some (.int .u8 0),1,1):=by kernel_rfl
theorem Xjd(b:Nat)(w:World)(h0:w.cell? ⟨b,0,none⟩=some (.pointer (some ⟨b,0,none⟩))):
 Calls Tryz.prog 99 #[.pointer (some ⟨b,0,none⟩)] w λe w'=>e=.returned (.tuple #[])/\w'=w:=by
 obtain⟨j,hj,_⟩:=Option.map_eq_some_iff.1 sizeBuilder;go_enter Tryz.func99,Tryz.ntmps99;go_wp2;rw[Lib.run_neq_ptr_same w _ Tryz.underlying77 hj];go_wp2;go_end0;exact⟨rfl,rfl⟩
theorem XhM(b:Nat)(w:World)(h0:w.cell? ⟨b,0,none⟩=some (.pointer none))(hC:w.shape? b=some (80,2))(hE:w.frozen? ⟨b,0,none⟩=false):
 Calls Tryz.prog 99 #[.pointer (some ⟨b,0,none⟩)] w λe w'=>e=.returned (.tuple #[])/\w'=w.setCell ⟨b,0,none⟩ (.pointer (some ⟨b,0,none⟩)):=by
 obtain⟨j,hj,hD⟩:=Option.map_eq_some_iff.1 sizeBuilder;go_enter Tryz.func99,Tryz.ntmps99;go_wp2;rw[Lib.run_to_unsafe w ⟨b,0,none⟩ Tryz.underlying77 Tryz.underlying231 hj (by rw[hD];decide) hC (Nat.zero_lt_succ 1)];simp only[Result.andThen];rw[Oper.upon_value];go_wp2;rw[run_callFunc_extern Tryz.func155 (by kernel_rfl) (by kernel_rfl) (by kernel_rfl) (e:=Extern.AbiNoEscape.same) (by kernel_rfl)];rw[Lib.run_noEscape];simp only[Result.andThen];rw[Oper.upon_value];go_wp2;rw[Lib.run_from_unsafe w ⟨b,0,none⟩ Tryz.underlying231 Tryz.underlying77 hj hC liesBuilder];simp only[Result.andThen];rw[Oper.upon_value]
 go_wp2;go_end0;exact⟨rfl,rfl⟩
theorem Xj7(B b:Nat)(bs:List Value)(w:World)(h:Lib.IsBuilder 80 5 B b bs w):
 Calls Tryz.prog 99 #[.pointer (some ⟨b,0,none⟩)] w λe w'=>e=.returned (.tuple #[])/\(Lib.BuilderAt 80 5 B b (.pointer (some ⟨b,0,none⟩)) bs w'/\Below B w w'):=by
 rcases h with h|h
 ·refine(XhM b w h.cell0 h.shape h.frozen0).mono ?_;rintro e w' ⟨rfl,rfl⟩;exact⟨rfl,h.used _,(Below.refl B w).setCell (p:=⟨b,0,none⟩) h.1 _⟩
 ·refine(Xjd b w h.cell0).mono ?_;rintro e w' ⟨rfl,rfl⟩;exact⟨rfl,h,Below.refl B _⟩
theorem Xeg(B b:Nat)(bs:List Value)(c:Int)(w:World)(h:Lib.IsBuilder 80 5 B b bs w)(hlen:bs.length+1<=140737488355328)(hO:B<=w.heap.size):
 Calls Tryz.prog 47 #[.pointer (some ⟨b,0,none⟩),.int .u8 c] w λe w'=>e=.returned .nilIface/\(Lib.BuilderAt 80 5 B b (.pointer (some ⟨b,0,none⟩)) (bs++[.int .u8 c]) w'/\Below B w w'):=by
 obtain⟨i0,hi,hJ,hK,hL⟩:=info_parts infoByte;go_enter Tryz.func47,Tryz.ntmps47;go_wp2_with (go_at_call 99;refine(Xj7 B b bs _ h).mono ?_)
 rintro e w1 ⟨rfl,h1,hG⟩;obtain⟨hB,v,hH,hE,hM⟩:=h1;have c0:w1.cell? ⟨b,0,none⟩=some (.pointer (some ⟨b,0,none⟩)):=by rw[Lib.cell_of_heap hH];rfl
 have c1:w1.cell? ⟨b,1,none⟩=some v:=by rw[Lib.cell_of_heap hH];rfl
 go_wp2_with (at_builtin;refine wpList_append_own _ rfl _ _ 78 rfl B 5 i0 (.int .u8 0) 1 1 Tryz.underlying78 hi hJ hK hL rfl (by decide) _ _ _ rfl (hE.alloc _) ⟨w1.heap.size,0,none⟩ 1 1 [.int .u8 c] rfl rfl ?c1 ?c2 ?c3 ?c4 ?c5 ?_)
 case c1=>
  intro j u hj
  match j,hj with
  |0,hj=>simp at hj;subst hj;simp[Addr.add]
 case c2=>intro u hu;simp at hu;subst hu;rfl
 case c3=>unfold maxLen;omega
 case c4=>omega
 case c5=>have:=hG.size;simp;omega
 intro v' w2 hC hD _;have hN:b<w1.heap.size:=by
  rcases Nat.lt_or_ge b w1.heap.size with h'|h'
  ·exact h'
  ·simp[Array.getElem?_eq_none h'] at hH
 have hI:w2.heap[b]? =some (.cells #[.pointer (some ⟨b,0,none⟩),v] 80 (0,0)):=by
  rw[hD.block b (by simp;omega) (λe=>hM e.symm),Lib.alloc_old w1 _ b hN];exact hH
 have d0:w2.cell? ⟨b,0,none⟩=some (.pointer (some ⟨b,0,none⟩)):=by rw[Lib.cell_of_heap hI];rfl
 have d1:w2.cell? ⟨b,1,none⟩=some v:=by rw[Lib.cell_of_heap hI];rfl
 have f1:w2.frozen? ⟨b,1,none⟩=false:=Lib.frozen_of_heap hI 1;obtain⟨g,cap,rfl⟩:∃g cap,v'=.slice (some ⟨g,0,none⟩) (bs.length+1) cap:=by
  rcases hC.2 with ⟨_,h0⟩|⟨g,cap,cur,hv,_⟩
  ·omega
  ·exact⟨g,cap,hv⟩
 go_wp2;go_ret;refine⟨rfl,?_,?_⟩
 ·exact Lib.BuilderAt.put (T:=80) (e:=5) hB hI (bs':=bs++[.int .u8 c]) (by simpa using hC) (by decide)
 ·exact((hG.alloc (by have:=hG.size;omega) _).grown hD (by have:=hG.size;simp;omega) (λk hk=>(hE.lt k hk).1)).setCell (p:=⟨b,1,none⟩) hB _
end Go.Proofs.YtdcahhbipeaggaaGreatDoor
namespace Go.Proofs.YtdcahhbipeaggaaGreatDoor
open Go.RowKit Go.Shelf
def Xdw:Go.Shelf.Ren:=⟨fun|169=>29|n=>n,fun|70=>77|9=>9|0=>0|72=>80|37=>78|127=>167|3=>3|5=>5|n=>n,fun|n=>n⟩
theorem Xpi:Go.Proofs.Lays.n169 Tryz.prog Xdw:={
 mixed:=by kernel_rfl
 f169:=Tryz.func29.trans (congrArg some (by kernel_rfl))
 t0:=Tryz.underlying0
 a0:=Tryz.isAgg0
 z0:=Tryz.sizeOf0
 v0:=Tryz.zeroValue0
 t3:=Tryz.underlying3
 a3:=Tryz.isAgg3
 z3:=Tryz.sizeOf3
 v3:=Tryz.zeroValue3
 t9:=Tryz.underlying9
 a9:=Tryz.isAgg9
 z9:=Tryz.sizeOf9
 v9:=Tryz.zeroValue9
 t37:=Tryz.underlying78
 a37:=Tryz.isAgg78
 z37:=Tryz.sizeOf78
 v37:=Tryz.zeroValue78
 t70:=Tryz.underlying77
 a70:=Tryz.isAgg77
 z70:=Tryz.sizeOf77
 v70:=Tryz.zeroValue77
 t72:=Tryz.underlying80
 a72:=Tryz.isAgg80
 z72:=Tryz.sizeOf80
 v72:=Tryz.zeroValue80
 t127:=Tryz.underlying167
 a127:=Tryz.isAgg167
 z127:=Tryz.sizeOf167
 v127:=Tryz.zeroValue167}
theorem XnI:Builder.Extra Tryz.prog Xdw:={
 sizeBuilder:=by kernel_rfl
 liesBuilder:=by kernel_rfl
 t5:=Tryz.underlying5
 a5:=Tryz.isAgg5
 z5:=Tryz.sizeOf5
 v5:=Tryz.zeroValue5
 infoByte:=by kernel_rfl
 cellsByte:=by kernel_rfl
 sizeByte:=by kernel_rfl
 neB5:=by decide}
theorem Xom(B b:Nat)(l:List UInt8)(w:World)(h:Lib.IsBuilder 80 5 B b (Lib.byteCells l) w)(hC:B<=w.heap.size):
 Calls Tryz.prog 29 #[.pointer (some ⟨b,0,none⟩)] w λe w'=>e=.returned (.string ⟨l.toArray⟩)/\Below B w w':=Any.Builder_String_any Xpi XnI B b l w h hC
end Go.Proofs.YtdcahhbipeaggaaGreatDoor
namespace Go.Proofs.YtdcahhbipeaggaaGreatDoor
open Go.RowKit Go.ChangeShapes Go.WideShapes Go.Deep
section
variable {H:Type} {enc:TypeId×Value->H} {w:World}
theorem X4{n:Nat}{c:Value}{y:DataW H×List MemPlace}(h:DataW.trod enc Tryz.prog w 0 (λ_=>true) true n 3 [c]=some y):∃k:Int,c=.int .i64 k/\I64 k:=by
 obtain⟨k,e,_,hw⟩:=DataW.trod_int Tryz.underlying3 h;injection e with e _;refine⟨k,e,?_⟩;have: -9223372036854775808<=k/\k<=9223372036854775807:=by simpa[Lit.wf,IntKind.min,IntKind.max,IntKind.signed,IntKind.bits] using hw
 exact this
theorem Zd{n:Nat}{c:Value}{y:DataW H×List MemPlace}(h:DataW.trod enc Tryz.prog w 0 (λ_=>true) true n 9 [c]=some y):∃s:ByteArray,c=.string s/\s.size<=maxLen:=by
 obtain⟨s,e,_,hs⟩:=DataW.trod_string Tryz.underlying9 h;injection e with e _;exact⟨s,e,hs⟩
def XdW(enc:TypeId×Value->H)(w:World){α:Type}(e:TypeId)(size:Nat)(cells:α->List Value)(good:α->Prop):Prop:=
 ∀(n:Nat) (cs:List Value) (y:DataW H×List MemPlace),cs.length=size->DataW.trod enc Tryz.prog w 0 (λ_=>true) true n e cs=some y->∃x:α,cells x=cs/\good x
theorem XgR{a:Addr}{v:Value}(h:w.cell? a=some v):a.block<w.heap.size:=by
 rcases Nat.lt_or_ge a.block w.heap.size with h'|h'
 ·exact h'
 ·rw[World.cell?,Array.getElem?_eq_none h'] at h;simp at h
theorem XsB{a:Addr}{v:Value}(h:w.cell? a=some v):∃b off,a=⟨b,off,none⟩/\b<w.heap.size:=by
 obtain⟨b,off,sp⟩:=a;have h1:=World.cell?_spot h;simp only at h1;subst h1;exact⟨b,off,rfl,XgR h⟩
theorem Je{α:Type}{t e:TypeId}{size:Nat}{cells:α->List Value}{good:α->Prop}(ht:Tryz.prog.underlying t=some (.slice e))(hsz:Tryz.prog.cellsOf e=size)(hD:0<size)(hlen:∀x,(cells x).length=size)(hE:XdW enc w e size cells good){n:Nat}{c:Value}{y:DataW H×List MemPlace}
 (h:DataW.trod enc Tryz.prog w 0 (λ_=>true) true n t [c]=some y):∃s:Sl α,c=.slice s.A s.l.length s.cap/\XA w w.heap.size size cells s/\∀x∈s.l,good x:=by
 rcases open_slice ht h with ⟨e0,_⟩|⟨a,len,cap,m,n',D,Pl,e0,_,hl,hm,hG,_,hH⟩
 ·injection e0 with e0 _;exact⟨⟨none,0,[]⟩,e0,⟨Nat.le_refl _,Nat.zero_le _,λh=>absurd h (by simp)⟩,λx hx=>by simp at hx⟩
 ·injection e0 with e0 _;have hN:len<=m:=by
   have:m=cap:=by simpa using hG
   omega
  clear hG;rcases Nat.eq_zero_or_pos len with hC|hC
  ·subst hC;exact⟨⟨some a,cap,[]⟩,e0,⟨Nat.zero_le _,hm,λh=>absurd h (by simp)⟩,λx hx=>by simp at hx⟩
  have each:∀i,i<len->∃x:α,good x/\∀j u,(cells x)[j]? =some u->w.cell? (a.add (i*size+j))=some u:=λi hi=>by
   obtain⟨cs',hc,hI⟩:=hH i (by omega);rw[hsz] at hc;obtain⟨_,hJ,hK⟩:=World.cells?_some hc;obtain⟨x,hx,hg⟩:=hE n' cs' _ hJ hI;refine⟨x,hg,λj u hu=> ?_⟩;have hj:j<size:=by rw[<-hlen x];exact(lgS hu).1
   rw[<-Go.Deep.add_add,hK j hj,<-hx,hu]
  haveI:Inhabited α:=⟨(each 0 hC).choose⟩
  obtain⟨X,hX⟩:=choose_lt (α:=α) (p:=λi x=>good x/\∀j u,(cells x)[j]? =some u->w.cell? (a.add (i*size+j))=some u) each;refine⟨⟨some a,cap,(List.range len).map X⟩,by simpa using e0,⟨by simpa using hl,hm,λ_=> ?_⟩,λx hx=> ?_⟩
  ·have h0:0<len:=hC;have hL:=(hX 0 h0).2 0;have hC:0<(cells (X 0)).length:=by rw[hlen];exact hD
   obtain⟨b,off,rfl,hb⟩:=XsB (a:=a) (by simpa[Addr.add] using hL _ (lgE hC));refine⟨b,off,rfl,hb,λi x hx j u hu=> ?_⟩;have hM:i<len/\X i=x:=by
    rw[List.getElem?_map] at hx;rcases Nat.lt_or_ge i len with h|h
    ·rw[List.getElem?_range h] at hx;simp at hx;exact⟨h,hx⟩
    ·rw[List.getElem?_eq_none (by simpa using h)] at hx;simp at hx
   obtain⟨hi,rfl⟩:=hM;have:=(hX i hi).2 j u hu;have e:(⟨b,off,none⟩:Addr).add (i*size+j)=⟨b,off+(i*size+j),none⟩:=by
    unfold Addr.add;by_cases hz:i*size+j=0
    ·rw[if_pos hz,hz];rfl
    ·rw[if_neg hz]
   rwa [e] at this
  ·simp only[List.mem_map,List.mem_range] at hx;obtain⟨i,hi,rfl⟩:=hx;exact(hX i hi).1
theorem XB{fs:Array Field}(hC:oneCellFields Tryz.prog fs=true){n:Nat}{cs:List Value}{xs:List (DataW H×List MemPlace)}(hlen:xs.length=fs.size)
 (hg:∀(i:Nat) (f:Field),fs[i]? =some f->DataW.trod enc Tryz.prog w 0 (λ_=>true) true n f.type ((cs.drop f.offset).take (Tryz.prog.cellsOf f.type))=xs[i]?) (i:Nat) (f:Field) (hf:fs[i]? =some f) (c:Value) (hc:cs[i]? =some c):
 ∃y,DataW.trod enc Tryz.prog w 0 (λ_=>true) true n f.type [c]=some y:=by
 obtain⟨ho,hk⟩:=hone_of hC i f hf;have hi:i<xs.length:=by rw[hlen];exact(agS hf).1
 have h1:=hg i f hf;obtain⟨hD,e⟩:=lgS hc;rw[ho,hk,List.drop_eq_getElem_cons hD,e,lgE hi] at h1;exact⟨_,h1⟩
theorem Xm2{n:Nat}{c:Value}{y:DataW H×List MemPlace}(h:DataW.trod enc Tryz.prog w 0 (λ_=>true) true n 30 [c]=some y):∃s:Sl Int,c=.slice s.A s.l.length s.cap/\XA w w.heap.size 1 Xj s/\∀x∈s.l,I64 x:=
 Je (size:=1) (cells:=Xj) (good:=I64) Tryz.underlying30 (by kernel_rfl) (by omega) (λ_=>rfl) (λn cs y hl h=>by
  match cs,hl with
  |[c],_=>
   obtain⟨k,rfl,hk⟩:=X4 h
   exact⟨k,rfl,hk⟩) h
theorem XtT:XdW enc w 86 7 Xu.cells (λx=>x.ok):=λn cs y hl h=>by
 obtain⟨xs,n',_,_,_,hlen,hg⟩:=DataW.trod_struct Tryz.underlying86 h
 match cs,hl with
 |[c0,c1,c2,c3,c4,c5,c6],_=>
  obtain⟨_,t0⟩:=XB (by kernel_rfl) hlen hg 0 _ rfl c0 rfl;obtain⟨_,t1⟩:=XB (by kernel_rfl) hlen hg 1 _ rfl c1 rfl;obtain⟨_,t2⟩:=XB (by kernel_rfl) hlen hg 2 _ rfl c2 rfl;obtain⟨_,t3⟩:=XB (by kernel_rfl) hlen hg 3 _ rfl c3 rfl;obtain⟨_,t4⟩:=XB (by kernel_rfl) hlen hg 4 _ rfl c4 rfl;obtain⟨_,t5⟩:=XB (by kernel_rfl) hlen hg 5 _ rfl c5 rfl;obtain⟨_,t6⟩:=XB (by kernel_rfl) hlen hg 6 _ rfl c6 rfl;obtain⟨s0,rfl,b0⟩:=Zd t0;obtain⟨s1,rfl,b1⟩:=X4 t1;obtain⟨s2,rfl,b2⟩:=X4 t2;obtain⟨s3,rfl,b3⟩:=X4 t3;obtain⟨s4,rfl,b4⟩:=X4 t4;obtain⟨s5,rfl,b5⟩:=X4 t5
  obtain⟨s6,rfl,b6⟩:=X4 t6;exact⟨⟨s0,s1,s2,s3,s4,s5,s6⟩,rfl,⟨b0,b1,b2,b3,b4,b5,b6⟩⟩
theorem Xr1:XdW enc w 88 3 Xo.cells (λx=>x.ok):=λn cs y hl h=>by
 obtain⟨xs,n',_,_,_,hlen,hg⟩:=DataW.trod_struct Tryz.underlying88 h
 match cs,hl with
 |[c0,c1,c2],_=>
  obtain⟨_,t0⟩:=XB (by kernel_rfl) hlen hg 0 _ rfl c0 rfl;obtain⟨_,t1⟩:=XB (by kernel_rfl) hlen hg 1 _ rfl c1 rfl;obtain⟨_,t2⟩:=XB (by kernel_rfl) hlen hg 2 _ rfl c2 rfl;obtain⟨s0,rfl,b0⟩:=Zd t0;obtain⟨s1,rfl,b1⟩:=X4 t1;obtain⟨s2,rfl,b2⟩:=X4 t2;exact⟨⟨s0,s1,s2⟩,rfl,⟨b0,b1,b2⟩⟩
theorem XtQ:XdW enc w 67 4 Xt.cells (λx=>x.ok):=λn cs y hl h=>by
 obtain⟨xs,n',_,_,_,hlen,hg⟩:=DataW.trod_struct Tryz.underlying67 h
 match cs,hl with
 |[c0,c1,c2,c3],_=>
  obtain⟨_,t0⟩:=XB (by kernel_rfl) hlen hg 0 _ rfl c0 rfl;obtain⟨_,t1⟩:=XB (by kernel_rfl) hlen hg 1 _ rfl c1 rfl;obtain⟨_,t2⟩:=XB (by kernel_rfl) hlen hg 2 _ rfl c2 rfl;obtain⟨_,t3⟩:=XB (by kernel_rfl) hlen hg 3 _ rfl c3 rfl;obtain⟨s0,rfl,b0⟩:=Zd t0;obtain⟨s1,rfl,b1⟩:=X4 t1;obtain⟨s2,rfl,b2⟩:=X4 t2;obtain⟨s3,rfl,b3⟩:=X4 t3;exact⟨⟨s0,s1,s2,s3⟩,rfl,⟨b0,b1,b2,b3⟩⟩
theorem Xu5:XdW enc w 57 13 Xd.cells (λx=>x.ok/\Xd.at_ w w.heap.size x):=λn cs y hl h=>by
 obtain⟨xs,n',_,_,_,hlen,hg⟩:=DataW.trod_struct Tryz.underlying57 h
 match cs,hl with
 |[c0,c1,c2,c3,c4,c5,c6,c7,c8,c9,c10,c11,c12],_=>
  obtain⟨_,t0⟩:=XB (by kernel_rfl) hlen hg 0 _ rfl c0 rfl;obtain⟨_,t1⟩:=XB (by kernel_rfl) hlen hg 1 _ rfl c1 rfl;obtain⟨_,t2⟩:=XB (by kernel_rfl) hlen hg 2 _ rfl c2 rfl;obtain⟨_,t3⟩:=XB (by kernel_rfl) hlen hg 3 _ rfl c3 rfl;obtain⟨_,t4⟩:=XB (by kernel_rfl) hlen hg 4 _ rfl c4 rfl;obtain⟨_,t5⟩:=XB (by kernel_rfl) hlen hg 5 _ rfl c5 rfl;obtain⟨_,t6⟩:=XB (by kernel_rfl) hlen hg 6 _ rfl c6 rfl;obtain⟨_,t7⟩:=XB (by kernel_rfl) hlen hg 7 _ rfl c7 rfl;obtain⟨_,t8⟩:=XB (by kernel_rfl) hlen hg 8 _ rfl c8 rfl;obtain⟨_,t9⟩:=XB (by kernel_rfl) hlen hg 9 _ rfl c9 rfl
  obtain⟨_,t10⟩:=XB (by kernel_rfl) hlen hg 10 _ rfl c10 rfl;obtain⟨_,t11⟩:=XB (by kernel_rfl) hlen hg 11 _ rfl c11 rfl;obtain⟨_,t12⟩:=XB (by kernel_rfl) hlen hg 12 _ rfl c12 rfl;obtain⟨s0,rfl,b0⟩:=Zd t0;obtain⟨s1,rfl,b1⟩:=X4 t1;obtain⟨s2,rfl,b2⟩:=X4 t2;obtain⟨s3,rfl,b3⟩:=X4 t3;obtain⟨s4,rfl,b4⟩:=X4 t4;obtain⟨s5,rfl,a5,b5⟩:=Xm2 t5;obtain⟨s6,rfl,b6⟩:=X4 t6;obtain⟨s7,rfl,b7⟩:=X4 t7;obtain⟨s8,rfl,b8⟩:=X4 t8;obtain⟨s9,rfl,b9⟩:=X4 t9;obtain⟨s10,rfl,b10⟩:=X4 t10;obtain⟨s11,rfl,a11,b11⟩:=Je (size:=7) (cells:=Xu.cells) Tryz.underlying54 (by kernel_rfl) (by decide) (λ_=>rfl) XtT t11
  obtain⟨s12,rfl,a12,b12⟩:=Je (size:=3) (cells:=Xo.cells) Tryz.underlying55 (by kernel_rfl) (by omega) (λ_=>rfl) Xr1 t12;exact⟨⟨s0,s1,s2,s3,s4,s5,s6,s7,s8,s9,s10,s11,s12⟩,rfl,⟨b0,b1,b2,b3,b4,b5,b6,b7,b8,b9,b10,b11,b12⟩,⟨a5,a11,a12⟩⟩
theorem Xq2{r:Reach}{b0:Nat}{v:Value}{d:DataW H}{p:List MemPlace}(hv:Value.okWide Tryz.prog w r b0 25 v)(h:DataW.Trod enc Tryz.prog w 0 (λ_=>true) true 25 v d p):
 ∃h:Xf,v=.agg #[.string h.name,.int .i64 h.aH,.slice h.aA.A h.aA.l.length h.aA.cap,.slice h.aB.A h.aB.l.length h.aB.cap]/\h.ok/\Xf.at_ w w.heap.size h:=by
 obtain⟨cs,rfl,hsz⟩:=okWide_struct Tryz.underlying25 hv;obtain⟨cs⟩:=cs;obtain⟨fuel,hf⟩:=h;obtain⟨xs,n',_,_,_,hlen,hg⟩:=DataW.trod_struct Tryz.underlying25 hf
 match cs,hsz.trans (show Tryz.prog.cellsOf 25=4 by kernel_rfl) with
 |[c0,c1,c2,c3],_=>
  obtain⟨_,t0⟩:=XB (by kernel_rfl) hlen hg 0 _ rfl c0 rfl;obtain⟨_,t1⟩:=XB (by kernel_rfl) hlen hg 1 _ rfl c1 rfl;obtain⟨_,t2⟩:=XB (by kernel_rfl) hlen hg 2 _ rfl c2 rfl;obtain⟨_,t3⟩:=XB (by kernel_rfl) hlen hg 3 _ rfl c3 rfl;obtain⟨s0,rfl,b0⟩:=Zd t0;obtain⟨s1,rfl,b1⟩:=X4 t1;obtain⟨s2,rfl,a2,b2⟩:=Je (size:=13) (cells:=Xd.cells) Tryz.underlying22 (by kernel_rfl) (by omega) (λ_=>rfl) Xu5 t2;obtain⟨s3,rfl,a3,b3⟩:=Je (size:=4) (cells:=Xt.cells) Tryz.underlying23 (by kernel_rfl) (by omega) (λ_=>rfl) XtQ t3;exact⟨⟨s0,s1,s2,s3⟩,rfl,⟨b0,b1,λs hs=>(b2 s hs).1,b3⟩,⟨a2,λs hs=>(b2 s hs).2,a3⟩⟩
end
end Go.Proofs.YtdcahhbipeaggaaGreatDoor
