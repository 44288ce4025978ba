/- Lemmas for TopPrinted: Twice. -/
import Derived.Test.YtdcahhbipeaggaaGreatDoorItems
import Derived.Maps.OwnSet
set_option maxRecDepth 100000
set_option maxHeartbeats 16000000
namespace Go.Proofs.YtdcahhbipeaggaaGreatDoor
open Go.RowKit Go.Maps Go.WideMaps
def Qx(s:ByteArray):Lit:=.string s.data.toList
def Jt(ks:List ByteArray):DataW Unit:=setOf (.agg []) (ks.map Qx)
theorem Xlv(ks:List ByteArray)(s:ByteArray):Jt (ks++[s])=(Jt ks).put (Qx s) (.agg []):=by
 unfold Jt;rw[List.map_append,List.map_cons,List.map_nil,setOf_snoc]
def Xao(ks:List ByteArray):Nat:=((ks.map Qx).foldl addKey []).length
theorem Xlr(ks:List ByteArray):Maps.size (Jt ks)=Xao ks:=
 size_setOf _ _ λx hx=>by
  obtain⟨s,_,rfl⟩:=List.mem_map.1 hx;exact trivial
theorem Xb9{a w:World}(h:Below a.heap.size a w)(row:Option Nat):a.grownBy w row:=⟨h.os,h.tape,h.output,h.size,λi hi _=>h.block i hi⟩
theorem Xfx{α:Type}{l:List α}{f:α->ByteArray}{k:Nat}{z:α}(h:l[k]? =some z):Jt ((l.take (k+1)).map f)=(Jt ((l.take k).map f)).put (Qx (f z)) (.agg []):=by
 rw[List.take_add_one,h,List.map_append];exact Xlv _ _
theorem Xki{α:Type}{l:List α}{f:α->ByteArray}{k:Nat}(hk:k=l.length):decide (Maps.size (Jt ((l.take k).map f))<l.length)=decide (Xao (l.map f)<l.length):=by
 subst hk;rw[List.take_length,Xlr]
theorem XlO{a b:ByteArray}:(Qx a).sameKey (Qx b)=Xm a b:=by
 unfold Qx Xm;rw[ByteArray.toList_eq,ByteArray.toList_eq];by_cases h:a.data.toList=b.data.toList
 ·rw[h];simp[Lit.sameKey]
 ·rw[Maps.sameKey_ne (by intro e;injection e with e;exact h e)];symm;simpa using h
theorem Xjc(ks:List ByteArray):∀acc:List ByteArray,((ks.map Qx).foldl addKey (acc.map Qx)).length<=acc.length+ks.length/\
 (((ks.map Qx).foldl addKey (acc.map Qx)).length=acc.length+ks.length↔∀j (x:ByteArray),ks[j]? =some x->(acc++ks.take j).any (λy=>Xm y x)=false):=by
 induction ks with
 |nil=>intro acc;simp
 |cons s ks ih=>
  intro acc;have hC:(acc.map Qx).any (λy=>y.sameKey (Qx s))=acc.any (λy=>Xm y s):=by
   rw[List.any_map];congr 1;funext y;exact XlO
  simp only[List.map_cons,List.foldl_cons,addKey,hC];cases hs:acc.any (λy=>Xm y s)
  ·have:=ih (acc++[s]);simp only[List.map_append,List.map_cons,List.map_nil,List.length_append,List.length_cons,List.length_nil] at this;refine⟨by simp;omega,?_⟩;simp only[Bool.false_eq_true,if_false,List.length_cons];rw[show acc.length+(ks.length+1)=acc.length+(0+1)+ks.length by omega,this.2];constructor
   ·intro h j x hx;cases j with
    |zero=>simp at hx;subst hx;simpa using hs
    |succ j=>have:=h j x (by simpa using hx);simpa using this
   ·intro h j x hx;have:=h (j+1) x (by simpa using hx);simpa using this
  ·have:=ih acc;refine⟨by simp;omega,?_⟩;simp only[if_true,List.length_cons];constructor
   ·intro h;omega
   ·intro h;have:=h 0 s rfl;simp at this;rw[List.any_eq_true] at hs;obtain⟨y,hy,hD⟩:=hs;rw[this y hy] at hD;cases hD
theorem Xhn{α:Type}(l:List α)(f:α->ByteArray):decide (Xao (l.map f)<l.length)= !X8 (λi x=> !(l.take i).any (λy=>Xm (f y) (f x))) l:=by
 have h:=Xjc (l.map f) [];simp only[List.map_nil,List.length_nil,Nat.zero_add,List.length_map,List.nil_append] at h;cases ha:X8 (λi x=> !(l.take i).any (λy=>Xm (f y) (f x))) l
 ·have hC:¬Xao (l.map f)=l.length:=λe=>by
   have h2:=h.2.1 e;rw[Bool.eq_false_iff] at ha;apply ha;rw[XJ];intro j y hy;have:=h2 j (f y) (by rw[List.getElem?_map,hy];rfl);rw[<-List.map_take,List.any_map] at this;have e2:((λy_1=>Xm y_1 (f y))∘f)=(λz=>Xm (f z) (f y)):=rfl;rw[e2] at this;simp[this]
  have h1:Xao (l.map f)<=l.length:=h.1;simp;omega
 ·have he:Xao (l.map f)=l.length:=h.2.2 λj x hx=>by
   rw[List.getElem?_map] at hx;cases hl:l[j]? with
   |none=>rw[hl] at hx;simp at hx
   |some y=>
    rw[hl] at hx;simp at hx;subst hx;have:=XJ.1 ha j y hl;rw[<-List.map_take,List.any_map];have e2:((λy_1=>Xm y_1 (f y))∘f)=(λz=>Xm (f z) (f y)):=rfl;rw[e2];simpa using this
  simp[he]
theorem Xpj:Keyed Tryz.prog 9:=string_keyed Tryz.underlying9
theorem Xj4:∀args w,(callFunc 162 args).run Tryz.prog w=.ok (.enter 162 args) w:=XZ Tryz.func162 (by kernel_rfl) rfl
theorem Xpm(e:Xu)(w:World):Calls Tryz.prog 162 #[.agg #[.string e.name,.int .i64 e.place,.int .i64 e.width,.int .i64 e.weight,.int .i64 e.hang,.int .i64 e.front,.int .i64 e.back]] w (Xc w (.string e.name)):=by
 go_enter Tryz.func162,Tryz.ntmps162;go_wp2;go_ret;exact Xc.mk rfl (brf.alloc nr _)
theorem Xjq(A:Option Addr)(cap:Nat)(l:List Xu)(hJ:∀x∈l,x.ok)(w:World)(B:Nat)(hB:B<=w.heap.size)(hs:XA w B 7 Xu.cells ⟨A,cap,l⟩):
 Calls Tryz.prog 161 #[.slice A l.length cap,.func (.func 162) #[] #[]] w (Xc w (.bool (decide (Xao (l.map (·.name))<l.length)))):=by
 have hT:= @run_makeMap Tryz.prog;have hm:cap<=9223372036854775807:=hs.2.1;have hU:l.length<=cap:=hs.1;have hV:=Xj4;have HS:=Xa hs;have hO:=Xa hJ;clear hs hJ;go_enter Tryz.func161,Tryz.ntmps161;go_wp2;go_loopw [11] (λv wr=>∃k:Nat,v=.int .i64 k/\k<=l.length/\Hid (wr.ownsMap Tryz.prog 9 unitElem w.heap.size k (Jt ((l.take k).map (·.name))))/\∃x:Xb w.heap.size w,wr=x.val) (λv _=>l.length-(intOf v).toNat)
 case atStart=>exact⟨0,rfl,Nat.zero_le _,World.ownsMap_made _ _ _ _,⟨_,brf.alloc nr _⟩,rfl⟩
 case round=>
  obtain⟨k,rfl,hk,hG,x,rfl⟩:=hrel;by_cases hK:k<l.length
  ·obtain⟨b,off,hA,hb,hC⟩:=HS.out.2.2 (show 0<l.length by omega);simp only at hA;subst hA;have hx:l[k]? =some l[k]:=lgE hK;have hP:=(hO.out l[k] (List.getElem_mem hK)).name;have he:=λx:Xb w.heap.size w=>Xu.elem hx (show b<w.heap.size by omega) hC x;have HX:=Xa hx;clear hC hx;obtain⟨W,hW,hQ,hR,hL⟩:=boxed x.val (.cells #[.string l[k].name,.int .i64 l[k].place,.int .i64 l[k].width,.int .i64 l[k].weight,.int .i64 l[k].hang,.int .i64 l[k].front,.int .i64 l[k].back] 86);have hc:=λy:Xb W.heap.size W=>Xu.boxed hL (by omega) y;have hM:∀y:Xb W.heap.size W,Below w.heap.size w y.val:=λy=>x.below.trans ((hR.mono x.size).trans (y.below.mono (by have:=x.size;omega)))
   have hD:∀y:Xb W.heap.size W,y.val.ownsMap Tryz.prog 9 unitElem w.heap.size k (Jt ((l.take k).map (·.name))):=λy=>(hW▸hG.out.alloc _:W.ownsMap _ _ _ _ _ _).kept (Xb9 y.below none) (by simp);have HW:=Xa hW;have hN:=Xa hM;have HO:=Xa hD;clear hW hQ hL hM hD;go_wp2_with fail;rw[<-HW.out];refine(Xc.first (Xpm l[k] W)).mono ?_;rintro e w' ⟨rfl,y,rfl⟩;have hH:=HO.out y;go_wp2_with (at_mapUpdate;refine wpList_mapUpdate_own _ rfl _ _ _ 277 rfl 9 157 Xpj Tryz.underlying277 unitElem w.heap.size k _ rfl hH (by unfold maxLen;omega) _ _ _ rfl rfl (keyOf_string_mk Tryz.underlying9 hP) _ [] unitElem_mk ?_;intro w1 hI hE)
   exact⟨⟨k+1,by go_num,by omega,(by rw[Xfx HX.out];exact hI),⟨_,(hN.out y).grown hE (hN.out y).size (λj hj=>by cases hj;exact Nat.le_refl _)⟩,rfl⟩,by simp[intOf];omega⟩
  ·go_wp2_with (at_len;refine wpList_len_own _ rfl _ 277 rfl 9 157 Tryz.underlying277 _ w.heap.size k _ rfl hG.out ?_)
   go_ret;exact Xc.mk (congrArg Value.bool (by rw[<-List.map_take];exact Xki (by omega))) x.below
theorem Xnq:Keyed Tryz.prog 9:=string_keyed Tryz.underlying9
theorem Xjb:∀args w,(callFunc 168 args).run Tryz.prog w=.ok (.enter 168 args) w:=XZ Tryz.func168 (by kernel_rfl) rfl
theorem XnX(e:Xo)(w:World):Calls Tryz.prog 168 #[.agg #[.string e.name,.int .i64 e.weight,.int .i64 e.count]] w (Xc w (.string e.name)):=by
 go_enter Tryz.func168,Tryz.ntmps168;go_wp2;go_ret;exact Xc.mk rfl (brf.alloc nr _)
theorem Xib(A:Option Addr)(cap:Nat)(l:List Xo)(hJ:∀x∈l,x.ok)(w:World)(B:Nat)(hB:B<=w.heap.size)(hs:XA w B 3 Xo.cells ⟨A,cap,l⟩):
 Calls Tryz.prog 167 #[.slice A l.length cap,.func (.func 168) #[] #[]] w (Xc w (.bool (decide (Xao (l.map (·.name))<l.length)))):=by
 have hT:= @run_makeMap Tryz.prog;have hm:cap<=9223372036854775807:=hs.2.1;have hU:l.length<=cap:=hs.1;have hV:=Xjb;have HS:=Xa hs;have hO:=Xa hJ;clear hs hJ;go_enter Tryz.func167,Tryz.ntmps167;go_wp2;go_loopw [11] (λv wr=>∃k:Nat,v=.int .i64 k/\k<=l.length/\Hid (wr.ownsMap Tryz.prog 9 unitElem w.heap.size k (Jt ((l.take k).map (·.name))))/\∃x:Xb w.heap.size w,wr=x.val) (λv _=>l.length-(intOf v).toNat)
 case atStart=>exact⟨0,rfl,Nat.zero_le _,World.ownsMap_made _ _ _ _,⟨_,brf.alloc nr _⟩,rfl⟩
 case round=>
  obtain⟨k,rfl,hk,hG,x,rfl⟩:=hrel;by_cases hK:k<l.length
  ·obtain⟨b,off,hA,hb,hC⟩:=HS.out.2.2 (show 0<l.length by omega);simp only at hA;subst hA;have hx:l[k]? =some l[k]:=lgE hK;have hP:=(hO.out l[k] (List.getElem_mem hK)).name;have he:=λx:Xb w.heap.size w=>Xo.elem hx (show b<w.heap.size by omega) hC x;have HX:=Xa hx;clear hC hx;obtain⟨W,hW,hQ,hR,hL⟩:=boxed x.val (.cells #[.string l[k].name,.int .i64 l[k].weight,.int .i64 l[k].count] 88);have hc:=λy:Xb W.heap.size W=>Xo.boxed hL (by omega) y;have hM:∀y:Xb W.heap.size W,Below w.heap.size w y.val:=λy=>x.below.trans ((hR.mono x.size).trans (y.below.mono (by have:=x.size;omega)))
   have hD:∀y:Xb W.heap.size W,y.val.ownsMap Tryz.prog 9 unitElem w.heap.size k (Jt ((l.take k).map (·.name))):=λy=>(hW▸hG.out.alloc _:W.ownsMap _ _ _ _ _ _).kept (Xb9 y.below none) (by simp);have HW:=Xa hW;have hN:=Xa hM;have HO:=Xa hD;clear hW hQ hL hM hD;go_wp2_with fail;rw[<-HW.out];refine(Xc.first (XnX l[k] W)).mono ?_;rintro e w' ⟨rfl,y,rfl⟩;have hH:=HO.out y;go_wp2_with (at_mapUpdate;refine wpList_mapUpdate_own _ rfl _ _ _ 277 rfl 9 157 Xnq Tryz.underlying277 unitElem w.heap.size k _ rfl hH (by unfold maxLen;omega) _ _ _ rfl rfl (keyOf_string_mk Tryz.underlying9 hP) _ [] unitElem_mk ?_;intro w1 hI hE)
   exact⟨⟨k+1,by go_num,by omega,(by rw[Xfx HX.out];exact hI),⟨_,(hN.out y).grown hE (hN.out y).size (λj hj=>by cases hj;exact Nat.le_refl _)⟩,rfl⟩,by simp[intOf];omega⟩
  ·go_wp2_with (at_len;refine wpList_len_own _ rfl _ 277 rfl 9 157 Tryz.underlying277 _ w.heap.size k _ rfl hG.out ?_)
   go_ret;exact Xc.mk (congrArg Value.bool (by rw[<-List.map_take];exact Xki (by omega))) x.below
end Go.Proofs.YtdcahhbipeaggaaGreatDoor
