/- Lemmas for TopPrinted: LatProves. -/
import Derived.Test.YtdcahhbipeaggaaGreatDoorLatOf
set_option maxRecDepth 100000
set_option maxHeartbeats 16000000
namespace Go.Proofs.YtdcahhbipeaggaaGreatDoor
open Go Go.RowKit Go.Maps Go.Deep
theorem Xvl(n lb:Nat)(hn:n<=12)(st:Int)(g:Nat)(caps:Array Value)(i0:Nat)(hI:i0<n)(R:World->Prop)(eg:∀args w,(callFunc g args).run Tryz.prog w=.ok (.enter g args) w)(w:World)(hc:w.cell? ⟨lb,0,none⟩=some (.int .i64 (n:Int)))
 (hE:∀(x:Xb w.heap.size w) (i:Nat),i<i0->Calls Tryz.prog g (#[.int .i64 (i:Int)]++caps) x.val (Xc x.val (.bool false)))
 (hC:∀(x:Xb w.heap.size w),Calls Tryz.prog g (#[.int .i64 (i0:Int)]++caps) x.val (λe w'=>e=.returned (.bool true)/\R w')):
 Calls Tryz.prog 59 #[.pointer (some ⟨lb,0,none⟩),.int .i64 st,.func (.func g) #[] caps] w (λe w'=>e=.returned (.bool true)/\R w'):=by
 have hG:=Xa hE;have hD:=Xa hC;clear hE hC;go_enter Tryz.func59,Tryz.ntmps59;go_wp2_with fail;go_loopw [12] (λv wr=>∃k:Nat,v=.int .i64 k/\k<=i0/\∃x:Xb w.heap.size w,wr=x.val) (λv _=>n-(intOf v).toNat)
 case atStart=>exact⟨0,rfl,Nat.zero_le _,Xb.refl _ _,rfl⟩
 case round=>
  obtain⟨k,rfl,hk,x,rfl⟩:=hrel;have hJ:k<n:=by omega
  by_cases hH:k<i0
  ·have KX:=Xa (Xc.after (x:=x) nr (hG.out x k hH));go_wp2_with (refine KX.out.mono ?_;rintro e w' ⟨rfl,y,rfl⟩)
   exact⟨⟨k+1,by go_num,by omega,y,rfl⟩,by simp[intOf];omega⟩
  ·obtain rfl:k=i0:=by omega
   have KX:=Xa (hD.out x);go_wp2_with (refine KX.out.mono ?_;rintro e w' ⟨rfl,hR⟩;have HR:=Xa hR;clear hR)
   go_ret;exact⟨rfl,HR.out⟩
structure ZL(W:World)(ob sv st:Nat)(o:List Nat)(v:Value)(x:World):Prop where
 row:ISt W v (o.map λi:Nat=>(i:Int)) x
 oc:x.cell? ⟨ob,0,none⟩=some v
 ofz:x.frozen? ⟨ob,0,none⟩=false
 sc:x.cell? ⟨sv,0,none⟩=some (.int .i64 (st:Int))
 sfz:x.frozen? ⟨sv,0,none⟩=false
 base:W.heap.size<=ob/\W.heap.size<=sv
 lt:ob<x.heap.size/\sv<x.heap.size
 apart:ob≠sv/\v.ownBlock≠some ob/\v.ownBlock≠some sv
theorem YD{w w':World}{b:Nat}(h:w'.heap[b]? =w.heap[b]?)(i:Nat):w'.frozen? ⟨b,i,none⟩=w.frozen? ⟨b,i,none⟩:=by
 unfold World.frozen?;rw[h]
theorem ZL.to{W:World}{ob sv st:Nat}{o:List Nat}{v:Value}{x y:World}(h:ZL W ob sv st o v x)(b:Below x.heap.size x y):ZL W ob sv st o v y:=
 ⟨h.row.to b,(b.cell h.lt.1).trans h.oc,(YD (b.block _ h.lt.1) 0).trans h.ofz,(b.cell h.lt.2).trans h.sc,(YD (b.block _ h.lt.2) 0).trans h.sfz,h.base,by have:=b.size;have:=h.lt;omega,h.apart⟩
theorem Xrc(lb gb ob sv pv N st i:Nat)(f:Nat->Bool)(hQ:st<N)(hN:N<=4096)(hi:i<12)(hH:st.testBit i=false->st+2^i<N)(hE:(!st.testBit i&&f (st+2^i))=false)(w:World)(hI:w.cell? ⟨sv,0,none⟩=some (.int .i64 (st:Int)))(hJ:w.cell? ⟨pv,0,none⟩=some (.pointer (some ⟨lb,0,none⟩)))
 (hl:w.cell? ⟨lb,3,none⟩=some (.slice (some ⟨gb,0,none⟩) N N)) (hr:∀j,j<N->w.cell? ⟨gb,j,none⟩=some (.bool (f j))) (hG:sv<w.heap.size/\pv<w.heap.size/\lb<w.heap.size/\gb<w.heap.size):
 Calls Tryz.prog 60 #[.int .i64 (i:Int),.pointer (some ⟨sv,0,none⟩),.pointer (some ⟨pv,0,none⟩),.pointer (some ⟨ob,0,none⟩)] w (Xc w (.bool false)):=by
 have f1:=λy:Xb w.heap.size w=>And.intro (y.cell hI hG.1) (And.intro (y.cell hJ hG.2.1) (y.cell hl hG.2.2.1));have f0:=f1 (Xb.refl _ _);simp only[Xb.refl] at f0;have hC:=XhZ st i (by omega);have hR:(0:Int)<=(i:Int):=by omega
 have hT:(i:Int)<=64:=by omega
 cases hb:st.testBit i
 ·rw[hb] at hC hE;simp only[Bool.false_eq_true,if_false] at hC;rw[Bool.not_false,Bool.true_and] at hE;have hM:2^i<=2^12:=Nat.pow_le_pow_right (by decide) (by omega);have hK:=Xcu (n:=i) (by omega);have hD:=XlF st (2^i) (by omega) (Nat.lt_of_le_of_lt hM (by decide));rw[XlG hb] at hD;obtain⟨j,hj⟩:∃j,j=st+2^i:=⟨_,rfl⟩
  have hP:j<N:=by rw[hj];exact hH hb
  obtain⟨q,hq⟩:∃q,q=2^i:=⟨_,rfl⟩
  rw[<-hj] at hD hE;rw[<-hq] at hD hK;have hU:(0:Int)<=(j:Int):=by omega
  have hV:(j:Int)<(N:Int):=by omega
  have hW:(N:Int)<=4096:=by omega
  have hO:=λy:Xb w.heap.size w=>y.cell (hr j hP) hG.2.2.2;rw[hE] at hO;have hL:=hO (Xb.refl _ _);simp only[Xb.refl] at hL;clear hb hH hr hI hJ hl hM hj hq hE;go_enter Tryz.func60,Tryz.ntmps60;go_upto_region 1 with fail;refine Xk (Xb.refl w.heap.size w) (by kernel_rfl) (by kernel_rfl) ?_
  repeat (go_big_quiet_step (fail))
  refine wpQuiet_nil ?_;intro z;go_wp2_with fail;go_ret;exact Xc.mk rfl z.below
 ·rw[hb] at hC;simp only[if_true] at hC;clear hb hH hr hI hJ hl hE;go_enter Tryz.func60,Tryz.ntmps60;go_upto_region 1 with fail;refine Xk (Xb.refl w.heap.size w) (by kernel_rfl) (by kernel_rfl) ?_
  repeat (go_big_quiet_step (fail))
  refine wpQuiet_nil ?_;intro z;go_wp2_with fail;go_ret;exact Xc.mk rfl z.below
theorem ZL.push{W z w4:World}{ob sv st i g cap:Nat}{o:List Nat}{v:Value}(h:ZL W ob sv st o v z)(hD:w4.ownsRow W.heap.size 3 1 (.slice (some ⟨g,0,none⟩) (o.length+1) cap) (o.length+1) ((o.map λi:Nat=>(i:Int)).map (Value.int .i64)++[.int .i64 (i:Int)]))
 (hE:(z.alloc (.cells #[.int .i64 (i:Int)] 3)).grownBy w4 v.ownBlock) (hg:v.ownBlock=some g\/g=z.heap.size+1):
 (w4.cell? ⟨ob,0,none⟩=some v/\w4.frozen? ⟨ob,0,none⟩=false)/\
 ZL W ob sv st (o++[i]) (.slice (some ⟨g,0,none⟩) (o.length+1) cap) (w4.setCell ⟨ob,0,none⟩ (.slice (some ⟨g,0,none⟩) (o.length+1) cap)):=by
 have hb:∀k,k<z.heap.size->some k≠v.ownBlock->w4.heap[k]? =z.heap[k]? :=λk hk hK=>(hE.block k (by simp;omega) hK).trans (heap_alloc_old _ _ hk);obtain⟨a1,a2,a3⟩:=h.apart;have hC:=hb ob h.lt.1 (Ne.symm a2);have hG:=hb sv h.lt.2 (Ne.symm a3);have hsz:z.heap.size<w4.heap.size:=by have:=hE.size;simp at this;omega
 have hH:g≠ob:=by
  rcases hg with e|e
  ·rw[e] at a2;simpa using a2
  ·have:=h.lt;omega
 have hL:g≠sv:=by
  rcases hg with e|e
  ·rw[e] at a3;simpa using a3
  ·have:=h.lt;omega
 have hI:=h.row.to (brf.alloc nr (.cells #[.int .i64 (i:Int)] 3));have hJ:ISt W (.slice (some ⟨g,0,none⟩) (o.length+1) cap) ((o++[i]).map λi:Nat=>(i:Int)) w4:=by
  have:=hI.grow (g:=g) (cap:=cap) (n:=(i:Int)) (by simpa using hD) hE;simpa using this
 refine⟨⟨(cell_of_block hC 0).trans h.oc,(YD hC 0).trans h.ofz⟩,⟨⟨ownsRow_setCell_other hJ.1 (by simpa[Value.ownBlock] using hH) _,hJ.2.setCell h.base.1 _⟩,?_,?_,?_,?_,h.base,?_,a1,?_,?_⟩⟩
 ·exact World.cell?_setCell_same _ _ _ ((cell_of_block hC 0).trans h.oc)
 ·rw[World.frozen?_setCell];exact(YD hC 0).trans h.ofz
 ·exact(cell_of_block (blk_setCell_other _ ⟨ob,0,none⟩ _ _ (Ne.symm a1)) 0).trans ((cell_of_block hG 0).trans h.sc)
 ·exact(YD (blk_setCell_other _ ⟨ob,0,none⟩ _ _ (Ne.symm a1)) 0).trans ((YD hG 0).trans h.sfz)
 ·have:=h.lt;simp[World.setCell];omega
 ·simpa[Value.ownBlock] using hH
 ·simpa[Value.ownBlock] using hL
theorem ZL.state{W x:World}{ob sv st:Nat}{o:List Nat}{v:Value}(h:ZL W ob sv st o v x)(j:Nat):ZL W ob sv j o v (x.setCell ⟨sv,0,none⟩ (.int .i64 (j:Int))):=by
 obtain⟨a1,a2,a3⟩:=h.apart;refine⟨⟨ownsRow_setCell_other h.row.1 a3 _,h.row.2.setCell h.base.2 _⟩,(cell_of_block (blk_setCell_other _ ⟨sv,0,none⟩ _ _ a1) 0).trans h.oc,(YD (blk_setCell_other _ ⟨sv,0,none⟩ _ _ a1) 0).trans h.ofz,World.cell?_setCell_same _ _ _ h.sc,(by rw[World.frozen?_setCell];exact h.sfz),h.base,?_,h.apart⟩;have:=h.lt;simp[World.setCell];omega
theorem XoQ(W:World)(lb gb ob sv pv N st i:Nat)(o:List Nat)(v:Value)(f:Nat->Bool)(pG:st<N)(hN:N<=4096)(hi:i<12)(hlen:o.length<=5000)(hb:st.testBit i=false)(hP:st+2^i<N)(hf:f (st+2^i)=true)(w:World)(hC:ZL W ob sv st o v w)(hZ:w.cell? ⟨pv,0,none⟩=some (.pointer (some ⟨lb,0,none⟩)))
 (hl:w.cell? ⟨lb,3,none⟩=some (.slice (some ⟨gb,0,none⟩) N N)) (hr:∀j,j<N->w.cell? ⟨gb,j,none⟩=some (.bool (f j))) (hQ:pv<w.heap.size/\lb<w.heap.size/\gb<w.heap.size):
 Calls Tryz.prog 60 #[.int .i64 (i:Int),.pointer (some ⟨sv,0,none⟩),.pointer (some ⟨pv,0,none⟩),.pointer (some ⟨ob,0,none⟩)] w (λe w'=>e=.returned (.bool true)/\∃v',ZL W ob sv (st+2^i) (o++[i]) v' w'):=by
 have f1:=λy:Xb w.heap.size w=>And.intro (And.intro (hC.to y.below).sc (hC.to y.below).oc) (And.intro (y.cell hZ hQ.1) (y.cell hl hQ.2.1));have f0:=f1 (Xb.refl _ _);simp only[Xb.refl] at f0;have hH:=XhZ st i (by omega);have pH:(0:Int)<=(i:Int):=by omega
 have pI:(i:Int)<=64:=by omega
 rw[hb] at hH;simp only[Bool.false_eq_true,if_false] at hH;have pA:2^i<=2^12:=Nat.pow_le_pow_right (by decide) (by omega);have hR:=Xcu (n:=i) (by omega);have hE:=XlF st (2^i) (by omega) (Nat.lt_of_le_of_lt pA (by decide));rw[XlG hb] at hE;obtain⟨j,hj⟩:∃j,j=st+2^i:=⟨_,rfl⟩
 rw[<-hj] at hP hf ⊢;obtain⟨q,hq⟩:∃q,q=2^i:=⟨_,rfl⟩
 rw[<-hj] at hE;rw[<-hq] at hE hR;have pJ:(0:Int)<=(j:Int):=by omega
 have pK:(j:Int)<(N:Int):=by omega
 have pL:(N:Int)<=4096:=by omega
 have hT:=λy:Xb w.heap.size w=>y.cell (hr j hP) hQ.2.2;rw[hf] at hT;have hI:=hT (Xb.refl _ _);simp only[Xb.refl] at hI;have hV:=Xa (λy:Xb w.heap.size w=>hC.to y.below);obtain⟨ii,hJ,hz,pB,hK⟩:=Xnz;have hO:=Xa (And.intro hJ (And.intro hz (And.intro pB hK)));clear hb hP hr hC hZ hl pA hj hq hf hJ hz pB hK;go_enter Tryz.func60,Tryz.ntmps60;go_upto_region 1 with fail;refine Xk (Xb.refl w.heap.size w) (by kernel_rfl) (by kernel_rfl) ?_
 repeat (go_big_quiet_step (fail))
 refine wpQuiet_nil ?_;intro z;have hW:=hV.out z;have hG:=(hW.row.to (brf.alloc nr (.cells #[.int .i64 (i:Int)] 3 (0,0)))).1;simp only[List.length_map] at hG;have hX:=Xa hG;have pC:=Xa hW;have f1z:=f1 z;clear hW hG f1 hT f0 hI;go_wp2_with (at_builtin;refine Hid.out ?_)
 refine Lib.hid ?_;have pM:=pC.out.row.2.size;refine wpList_append_lies _ rfl _ _ 30 rfl W.heap.size 3 ii (.int .i64 0) 1 8 Tryz.underlying30 hO.out.1 hO.out.2.1 hO.out.2.2.1 hO.out.2.2.2 rfl (by decide) _ o.length _ rfl hX.out ⟨z.val.heap.size,0,none⟩ 1 1 [.int .i64 (i:Int)] rfl rfl (World.news_of_block (heap_alloc_new z.val _)) (λu hu=>by simp at hu;subst hu;rfl) (by omega) (by unfold maxLen;omega) (by omega) (by simp;omega) (z.val.heap.size+1) (by simp) ?_;intro g4 cap4 w4 hD hL pD hY;obtain⟨⟨pN,pO⟩,hM⟩:=pC.out.push hD hL pD;obtain⟨U,hU⟩:∃U,U=w4.setCell ⟨ob,0,none⟩ (.slice (some ⟨g4,0,none⟩) (o.length+1) cap4):=⟨_,rfl⟩
 rw[<-hU] at hM;have HU:=Xa hU;have pE:=Xa (λy:Xb U.heap.size U=>hM.to y.below);have h5:=λy:Xb U.heap.size U=>And.intro (hM.to y.below).sc (hM.to y.below).sfz;have pF:=h5 (Xb.refl _ _);simp only[Xb.refl] at pF;clear hD hL pD hY hM hU;go_upto_region 4 with fail;rw[<-HU.out];refine XH U.heap.size 4 (by kernel_rfl) (by kernel_rfl) ?_;simp only[List.take_succ_cons,List.take_zero,List.drop_succ_cons,List.drop_zero]
 repeat (go_big_quiet_step (fail))
 refine wpQuiet_nil ?_;intro y;go_wp2_with fail;go_ret;exact⟨rfl,_,(pE.out y).state j⟩
theorem XvE{w:World}{base:Nat}{e:TypeId}{size:Nat}{v:Value}{n:Nat}{xs:List Value}(h:w.ownsRow base e size v n xs):∀k,v.ownBlock=some k->k<w.heap.size:=by
 intro k hk;rcases h.2 with ⟨rfl,_⟩|⟨g,cap,cur,rfl,hg,hh,_⟩
 ·simp[Value.ownBlock] at hk
 ·have:g=k:=by simpa[Value.ownBlock] using hk
  subst this;exact(agS hh).1
theorem ZL.start(V:World):ZL V V.heap.size (V.heap.size+1) 0 [] (.slice none 0 0) ((V.alloc (.cells #[.slice none 0 0] 30)).alloc (.cells #[.int .i64 0] 3)):=by
 have h1:Below V.heap.size V (V.alloc (.cells #[.slice none 0 0] 30)):=brf.alloc nr _;have hz:(V.alloc (.cells #[.slice none 0 0] 30)).heap.size=V.heap.size+1:=by simp
 have hE:=heap_alloc_new V (.cells #[.slice none 0 0] 30);have hC:=heap_alloc_new (V.alloc (.cells #[.slice none 0 0] 30)) (.cells #[.int .i64 0] 3);have hD:=(heap_alloc_old (V.alloc (.cells #[.slice none 0 0] 30)) (.cells #[.int .i64 0] 3) (show V.heap.size<(V.alloc (.cells #[.slice none 0 0] 30)).heap.size by omega)).trans hE;rw[hz] at hC;exact⟨⟨XfH _ _ _ _,h1.alloc (by omega) _⟩,Joins.cell_of_block hD 0,Xe hD 0,Joins.cell_of_block hC 0,Xe hC 0,by omega,⟨by simp;omega,by simp⟩,by omega,by simp[Value.ownBlock],by simp[Value.ownBlock]⟩
theorem ZL.turn{W x:World}{ob sv st:Nat}{o:List Nat}{v:Value}(h:ZL W ob sv st o v x):ZL W ob x.heap.size st o v (x.alloc (.cells #[.int .i64 (st:Int)] 3)):=by
 have hn:=heap_alloc_new x (.cells #[.int .i64 (st:Int)] 3);have h2:=h.to (brf.alloc nr (.cells #[.int .i64 (st:Int)] 3));refine⟨h2.row,h2.oc,h2.ofz,Joins.cell_of_block hn 0,Xe hn 0,⟨h.base.1,h.row.2.size⟩,⟨h2.lt.1,by simp⟩,by have:=h.lt;omega,h.apart.2.1,λe=> ?_⟩;have:=XvE h.row.1 _ e;omega
theorem XoW{H:Nat->Bool}{n st:Nat}(hC:st<2^n)(hl:Lds H n st)(hw:st≠2^n-1):∃i,i<n/\st.testBit i=false/\Lds H n (st+2^i)/\∀j,j<i->(!st.testBit j&&Xbb H n (st+2^j))=false:=by
 obtain⟨i,h1,h2,h3,h4⟩:=XlL (good:=Xbb H n) (λ_ _=>Xba) hC hl hw;refine⟨i,h2,h3,h4,λj hj=> ?_⟩;unfold Xqa at h1;rw[List.find?_range_eq_some] at h1;have:=h1.2.2 j hj
 rwa [Bool.not_eq_true'] at this
def Xgm(w:World)(s:Xd)(l:List Yu)(e:Ending)(w':World):Prop:=
 Below w.heap.size w w'/\∃(S:Sl Int) (k:Int),e=.returned (.tuple #[.slice S.A S.l.length S.cap,.int .i64 k])/\XA w' w'.heap.size 1 Xj S/\
  ((k=0/\X0 s=true/\Y3 l=true/\∃o:List Nat,S.l=o.map (λi:Nat=>(i:Int))/\XhQ (ZK s l) l.length 0 o/\ZK s l 0=true)\/(k=22/\X0 s=true/\Y3 l=true/\S.l=[]/\¬Lds (ZK s l) l.length 0)\/(k=1/\(X0 s&&Y3 l)=false/\S.l=[]))
theorem Xgm.nil{w w':World}{s:Xd}{l:List Yu}{k:Int}(h:Below w.heap.size w w')(hk:(k=22/\X0 s=true/\Y3 l=true/\¬Lds (ZK s l) l.length 0)\/(k=1/\(X0 s&&Y3 l)=false)):
 Xgm w s l (.returned (.tuple #[.slice none 0 0,.int .i64 k])) w':=
 ⟨h,⟨none,0,[]⟩,k,rfl,⟨Nat.le_refl _,Nat.zero_le _,λh=>absurd h (by simp)⟩,Or.inr (by
  rcases hk with ⟨a,b,c,d⟩|⟨a,b⟩
  ·exact Or.inl ⟨a,b,c,rfl,d⟩
  ·exact Or.inr ⟨a,b,rfl⟩)⟩
theorem XoP(s:Xd)(sok:s.ok)(A:Option Addr)(cap:Nat)(l:List Yu)(hT:∀x∈l,x.ok)(w:World)(B:Nat)(hB:B<=w.heap.size)(sat:Xd.at_ w B s)(pF:XA w B 3 Yu.cells ⟨A,cap,l⟩)(hlen:l.length<=12):
 Calls Tryz.prog 19 #[.agg #[.string s.name,.int .i64 s.depth,.int .i64 s.low,.int .i64 s.high,.int .i64 s.length,.slice s.aG.A s.aG.l.length s.aG.cap,.int .i64 s.aM,.int .i64 s.aN,.int .i64 s.aI,.int .i64 s.most,.int .i64 s.aJ,.slice s.aF.A s.aF.l.length s.aF.cap,.slice s.aE.A s.aE.l.length s.aE.cap],.slice A l.length cap] w (Xgm w s l):=by
 obtain⟨W,hW,pR,hK,pG⟩:=bxst w s;have hc:=λy:Xb W.heap.size W=>Xd.boxed pG (by omega) y;have qF:=hc (Xb.refl _ _);simp only[Xb.refl] at qF;have pH:=bdo hK;have sat2:=sat.to (hK.mono hB) (show B<=W.heap.size by omega);have hD:=pF.to (hK.mono hB) (show B<=W.heap.size by omega)
 have pI:=Xa pH;have HW:=Xa hW;cases hL:X0 s&&Y3 l
 ·have KO:=Xa (Xc.first (XvF s sok A cap l hT W W.heap.size nr sat2 hD hL));have HP:=Xa (λ(w':World) (h:Below w.heap.size w w')=>Xgm.nil (s:=s) (l:=l) (k:=1) h (Or.inr ⟨rfl,hL⟩));clear hW pG hK pH sat sat2 pF hD hT sok pR hL hc;go_enter Tryz.func19,Tryz.ntmps19;go_upto_region 1 with fail;rw[<-HW.out];go_wp2_with (go_at_call 57;refine KO.out.mono ?_;rintro e w' ⟨rfl,y,rfl⟩)
  go_ret2;exact HP.out _ (pI.out ⟨_,y.below.alloc y.size _⟩)
 ·rw[bae] at hL;obtain⟨hv,hj⟩:=hL;have KO:=Xa (XuI s sok A cap l hT W W.heap.size nr sat2 hD hv hj hlen);have hU:=Xa (And.intro hv hj);obtain⟨n,hn⟩:∃n,n=l.length:=⟨_,rfl⟩
  obtain⟨N,hN⟩:∃N,N=2^n:=⟨_,rfl⟩
  obtain⟨H,hH⟩:∃H,H=ZK s l:=⟨_,rfl⟩
  have qR:1<=N:=by rw[hN];exact Nat.two_pow_pos n
  have pS:N<=4096:=by rw[hN];exact Nat.pow_le_pow_right (show 0<2 by decide) (show n<=12 by omega)
  have HN:=Xa hN;have pT:=Xa hn;have HH:=Xa hH;unfold Xue at KO;rw[<-hH,<-hn,<-hN] at KO;rw[<-hn] at hlen ⊢;clear hW pG hK pH sat sat2 pF hD hT sok pR hv hj hn hN hH hc;go_enter Tryz.func19,Tryz.ntmps19;go_upto_region 1 with fail;rw[<-HW.out];go_upto_region 2 with (go_at_call 57;refine KO.out.mono ?_;rintro e w1 ⟨pJ,lb,hb,rb,gb,rfl,hM⟩)
  obtain⟨V,hV,qG,pK,pU⟩:=boxed w1 (.cells #[.pointer (some ⟨lb,0,none⟩)] 139);have pL:Below W.heap.size W V:=pJ.trans (pK.mono pJ.size);have hX:∀y:Xb V.heap.size V,Lat W.heap.size lb hb rb gb n N H (XbK H n) (Xbb H n) y.val:=λy=>(hM.to pK).to y.below;have hY:∀y:Xb V.heap.size V,y.val.cell? ⟨w1.heap.size,0,none⟩=some (.pointer (some ⟨lb,0,none⟩)):=λy=>y.cell (Joins.cell_of_block pU 0) (show w1.heap.size<V.heap.size by omega);obtain⟨pv,pM⟩:∃pv,pv=w1.heap.size:=⟨_,rfl⟩
  have qH:pv<V.heap.size:=by omega
  rw[<-pM] at hY;have hZ:=And.intro (hY (Xb.refl _ _)) (And.intro (hX (Xb.refl _ _)).gs ((hX (Xb.refl _ _)).g.cell (show 0<N by omega)));simp only[Xb.refl] at hZ;have qI:=Xa hX;have qJ:=Xa hY;have pV:=Xa (λy:Xb V.heap.size V=>pL.trans (y.below.mono pL.size));have HV:=Xa hV;have qK:=Xa pM;clear hX hY pL hV qG pK pU hM pJ pM;rw[<-HV.out,<-qK.out];cases hg:Xbb H n 0
  ·rw[hg] at hZ
   have qL:=Xa (show ¬Lds (ZK s l) l.length 0 by
    rw[<-HH.out,<-pT.out,<-Xba,hg];simp)
   have HP:=Xa (λ(w':World) (h:Below w.heap.size w w')=>Xgm.nil (s:=s) (l:=l) (k:=22) h (Or.inl ⟨rfl,hU.out.1,hU.out.2,qL.out⟩));clear hg;go_wp2_with fail;go_ret2;exact HP.out _ (pI.out ⟨_,pV.out (Xb.refl _ _)⟩)
  ·rw[hg] at hZ;have pW:=Xa (Xba.1 hg);clear hg;go_wp2_with fail;clear hZ;go_loopw [9] (λv9 wr=>∃(sv st:Nat) (o:List Nat) (v:Value),v9=.pointer (some ⟨sv,0,none⟩)/\st<N/\o.length<=st/\Hid (ZL V V.heap.size sv st o v wr)/\Hid (Lds H n st)/\Hid (∀l',XhQ H n st l'->XhQ H n 0 (o++l'))) (λv wr=>N+1-Xqq v wr)
   case atStart=>exact⟨_,0,[],_,rfl,by omega,Nat.le_refl _,Xa (ZL.start V),pW,Xa (λl' h=>h)⟩
   case round=>
    obtain⟨sv,st,o,v,rfl,hO,qS,hP,hG,hC⟩:=hrel;have hx:=hP.out;have hQ:Below V.heap.size V wr:=hx.row.2;have pN:=hQ.size;have pA:=λy:Xb wr.heap.size wr=>qI.out ⟨y.val,hQ.trans (y.below.mono pN)⟩;have pB:=λy:Xb wr.heap.size wr=>qJ.out ⟨y.val,hQ.trans (y.below.mono pN)⟩;simp only at pA pB;have KW:=Xa (λy:Xb wr.heap.size wr=>Xc.after (x:=y) nr (XeN n lb hlen y.val (pA y).n));rw[<-HN.out] at KW;obtain⟨m,hm⟩:∃m,m=N-1:=⟨_,rfl⟩
    rw[<-hm] at KW;have pC:=λy:Xb wr.heap.size wr=>And.intro (hx.to y.below).sc (pB y);have hI:=pC (Xb.refl _ _);simp only[Xb.refl] at hI;have HX:=Xa (λy:Xb wr.heap.size wr=>hx.to y.below);have hE:=Xa pA;have pX:=Xa pB;have hJ:=Xa hQ;clear hx hQ pN pA pB hP;by_cases pY:st=m
    ·have qM:((st:Int)==(m:Int))=true:=by rw[beq_iff_eq];omega
     have HS:=Xa (show XhQ H n 0 o by
      have h:=hC.out [] (by rw[show st=2^n-1 by rw[<-HN.out];omega];exact XhQ.nil)
      rwa [List.append_nil] at h)
     clear hm pY hC hG;go_upto_region 8 with fail;refine Yq wr.heap.size (by kernel_rfl) (by kernel_rfl) ?_
     repeat (go_big_quiet_step ((go_at_call 58;exact KW.out _)))
     refine wpQuiet_nil ?_;intro z;obtain⟨S,rfl,pZ,qA⟩:=(HX.out z).row.sl;have qT:=(HX.out z).oc;have qB:=Xa (And.intro pZ qA);clear pC hI pZ qA;go_wp2_with fail;go_ret2;exact⟨pI.out ⟨z.val,pV.out ⟨z.val,hJ.out.trans (z.below.mono hJ.out.size)⟩⟩,S,0,rfl,qB.out.2,Or.inl ⟨rfl,hU.out.1,hU.out.2,o,qB.out.1,by rw[<-HH.out,<-pT.out];exact HS.out,by rw[<-HH.out];exact pW.out.ok⟩⟩
    ·have qM:((st:Int)==(m:Int))=false:=by rw[beq_eq_false_iff_ne];omega
     obtain⟨i,hi,pD,pE,hR⟩:=XoW (by rw[<-HN.out];exact hO) hG.out (by rw[<-HN.out];omega);have pO:st+2^i<N:=by rw[HN.out];exact Xjk (by rw[<-HN.out];exact hO) hi pD
     have qN:=Nat.two_pow_pos i
     have qC:=Xa (show ∀l',XhQ H n (st+2^i) l'->XhQ H n 0 ((o++[i])++l') from λl' h=>by
      rw[List.append_assoc]
      exact hC.out (i::l') (XhQ.cons hi pD pE.ok h))
     have qD:=Xa pE
     have KA:=Xa (λz:Xb wr.heap.size wr=>Xvl n lb hlen (st:Int) 60 #[.pointer (some ⟨sv,0,none⟩),.pointer (some ⟨pv,0,none⟩),.pointer (some ⟨V.heap.size,0,none⟩)] i hi (λw'=>∃v',ZL V V.heap.size sv (st+2^i) (o++[i]) v' w') (XZ Tryz.func60 (by kernel_rfl) rfl) z.val (hE.out z).n
      (λx j hj=>Xrc lb gb V.heap.size sv pv N st j (Xbb H n) hO pS (by omega) (λhb=>by rw[HN.out];exact Xjk (by rw[<-HN.out];exact hO) (show j<n by omega) hb) (hR j hj) x.val ((HX.out z).to x.below).sc ((x.below.cell (show pv<z.val.heap.size by have:=z.size;have:=hJ.out.size;omega)).trans (pX.out z)) ((hE.out z).to x.below).gs (λj hj=>((hE.out z).to x.below).g.cell hj)
        ⟨((HX.out z).to x.below).lt.2,by have:=z.size;have:=x.size;have:=hJ.out.size;omega,((hE.out z).to x.below).lt,((hE.out z).to x.below).g.lt⟩)
      (λx=>XoQ V lb gb V.heap.size sv pv N st i o v (Xbb H n) hO pS (by omega) (by omega) pD pO (Xba.2 pE) x.val ((HX.out z).to x.below) ((x.below.cell (show pv<z.val.heap.size by have:=z.size;have:=hJ.out.size;omega)).trans (pX.out z)) ((hE.out z).to x.below).gs (λj hj=>((hE.out z).to x.below).g.cell hj)
        ⟨by have:=z.size;have:=x.size;have:=hJ.out.size;omega,((hE.out z).to x.below).lt,((hE.out z).to x.below).g.lt⟩))
     have qU:∀(fn:Fn) (first cap:Array Value) (w:World),(Instr.makeFunc fn first cap).run Tryz.prog w=.ok (.func fn first cap) w:=λ_ _ _ _=>rfl;have qO:=Xa (show wr.cell? ⟨sv,0,none⟩=some (.int .i64 (st:Int)) from(HX.out (Xb.refl _ _)).sc);obtain⟨j,hj⟩:∃j,j=st+2^i:=⟨_,rfl⟩
     rw[<-hj] at KA qC qD pO;have qV:st<j:=by omega
     have pP:(o++[i]).length<=j:=by rw[List.length_append,List.length_singleton];omega
     clear hm pY hC hG pD pE hR qN hj hi;go_upto_region 8 with fail;refine Yq wr.heap.size (by kernel_rfl) (by kernel_rfl) ?_
     repeat (go_big_quiet_step ((go_at_call 58;exact KW.out _)))
     refine wpQuiet_nil ?_;intro z;have qP:=pC z;clear pC hI;go_upto_region 10 with (go_at_call 59;refine(KA.out z).mono ?_;rintro e w2 ⟨rfl,v2,pQ⟩)
     have qQ:=pQ.sc;have qE:=Xa pQ;clear pQ qP;go_wp2_with fail;exact⟨⟨_,j,o++[i],v2,rfl,pO,pP,Xa qE.out.turn,qD,qC⟩,by rw[Xap qE.out.turn.sc,Xap qO.out];omega⟩
end Go.Proofs.YtdcahhbipeaggaaGreatDoor
