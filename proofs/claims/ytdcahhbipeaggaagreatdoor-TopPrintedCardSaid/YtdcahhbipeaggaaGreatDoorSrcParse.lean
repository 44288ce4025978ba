/- Lemmas for TopPrinted: SrcParse. -/
import Derived.Test.YtdcahhbipeaggaaGreatDoorSrcRead
import Derived.Test.YtdcahhbipeaggaaGreatDoorSrcAt
set_option maxRecDepth 100000
set_option maxHeartbeats 16000000
namespace Go.Proofs.YtdcahhbipeaggaaGreatDoor
open Go.RowKit
def XgY:Xl:=⟨⟨#[]⟩,0,[],[]⟩
def XgX:Xp:=⟨[],[]⟩
def XhB:Xjl->(Xl×Xp)×(Int×Int)×Int
 |.bad a c=>((XgY,XgX),(a,c),7)
 |.good L=>match Zr L with
  |.error q=>((XgY,XgX),q,7)
  |.ok (x,_)=>if (Yn x.1&&YQ x.2)=true then(x,(0,0),0) else((XgY,XgX),(0,0),1)
def Xaa(w:World)(x:(Xl×Xp)×(Int×Int)×Int)(e:Ending)(w':World):Prop:=
 Below w.heap.size w w'/\∃(h:Xf) (s:Xq),e=.returned (.tuple #[.agg #[.string h.name,.int .i64 h.aH,.slice h.aA.A h.aA.l.length h.aA.cap,.slice h.aB.A h.aB.l.length h.aB.cap],.agg #[.slice s.aC.A s.aC.l.length s.aC.cap,.slice s.apart.A s.apart.l.length s.apart.cap],.agg #[.int .i64 x.2.1.1,.int .i64 x.2.1.2],.int .i64 x.2.2])/\
  Xf.at_ w' w'.heap.size h/\Xq.at_ w' w'.heap.size s/\h.pl=x.1.1/\s.pl=x.1.2/\h.ok/\s.ok/\∀q∈s.aC.l,q.aD.l.length<=1000000
def Xh3:Xf:=⟨⟨#[]⟩,0,⟨none,0,[]⟩,⟨none,0,[]⟩⟩
def Xh2:Xq:=⟨⟨none,0,[]⟩,⟨none,0,[]⟩⟩
theorem Xfs{α:Type}{w:World}{B size:Nat}{cells:α->List Value}:XA w B size cells ⟨none,0,[]⟩:=⟨Nat.le_refl _,Nat.zero_le _,λh=>absurd h (by simp)⟩
theorem Xaa.zero{w w':World}(hb:Below w.heap.size w w')(p:Int×Int)(k:Int):Xaa w ((XgY,XgX),p,k) (.returned (.tuple #[.agg #[.string ⟨#[]⟩,.int .i64 0,.slice none 0 0,.slice none 0 0],.agg #[.slice none 0 0,.slice none 0 0],.agg #[.int .i64 p.1,.int .i64 p.2],.int .i64 k])) w':=
 ⟨hb,Xh3,Xh2,rfl,⟨Xfs,λs hs=>by simp[Xh3] at hs,Xfs⟩,⟨Xfs,λs hs=>by simp[Xh2] at hs,Xfs⟩,rfl,rfl,⟨Nat.zero_le _,by unfold I64;simp[Xh3],λs hs=>by simp[Xh3] at hs,λs hs=>by simp[Xh3] at hs⟩,⟨λs hs=>by simp[Xh2] at hs,λs hs=>by simp[Xh2] at hs⟩,λs hs=>by simp[Xh2] at hs⟩
structure Bx(w:World)(b q:Nat)(K:Array Value)(t:TypeId)(u:World)(x0 x1 x2 x3 y0 y1 z0 z1:Value):Prop where
 a:u.heap[b]? =some (.cells #[x0,x1,x2,x3] 25 (0,0))
 c:u.heap[b+1]? =some (.cells #[y0,y1] 29 (0,0))
 d:u.heap[b+1+1]? =some (.cells #[z0,z1] 39 (0,0))
 e:u.heap[q]? =some (.cells K t (0,0))
 n:b+1+1<q
 f:Below b w u
section
variable {w u:World} {b q:Nat} {K:Array Value} {t:TypeId} {x0 x1 x2 x3 y0 y1 z0 z1 k0 k1 k2 k3 k4 k5 k6 k7:Value}
theorem Bx.cells(h:Bx w b q K t u x0 x1 x2 x3 y0 y1 z0 z1):(u.cell? ⟨b,0,none⟩=some x0/\u.cell? ⟨b,1,none⟩=some x1/\u.cell? ⟨b,2,none⟩=some x2/\u.cell? ⟨b,3,none⟩=some x3/\u.cell? ⟨b+1,0,none⟩=some y0/\u.cell? ⟨b+1,1,none⟩=some y1/\u.cell? ⟨b+1+1,0,none⟩=some z0/\u.cell? ⟨b+1+1,1,none⟩=some z1)/\u.frozen? ⟨b,0,none⟩=false/\u.frozen? ⟨b,1,none⟩=false/\u.frozen? ⟨b,2,none⟩=false/\u.frozen? ⟨b,3,none⟩=false/\u.frozen? ⟨b+1,0,none⟩=false/\u.frozen? ⟨b+1,1,none⟩=false/\u.frozen? ⟨b+1+1,0,none⟩=false/\u.frozen? ⟨b+1+1,1,none⟩=false:=
 ⟨⟨Joins.cell_of_block h.a 0,Joins.cell_of_block h.a 1,Joins.cell_of_block h.a 2,Joins.cell_of_block h.a 3,Joins.cell_of_block h.c 0,Joins.cell_of_block h.c 1,Joins.cell_of_block h.d 0,Joins.cell_of_block h.d 1⟩,Xe h.a 0,Xe h.a 1,Xe h.a 2,Xe h.a 3,Xe h.c 0,Xe h.c 1,Xe h.d 0,Xe h.d 1⟩
theorem Bx.two(h:Bx w b q #[k0,k1] t u x0 x1 x2 x3 y0 y1 z0 z1):u.cell? ⟨q,0,none⟩=some k0/\u.cell? ⟨q,1,none⟩=some k1:=⟨Joins.cell_of_block h.e 0,Joins.cell_of_block h.e 1⟩
theorem Bx.eight(h:Bx w b q #[k0,k1,k2,k3,k4,k5,k6,k7] t u x0 x1 x2 x3 y0 y1 z0 z1):u.cell? ⟨q,2,none⟩=some k2/\u.cell? ⟨q,3,none⟩=some k3/\u.cell? ⟨q,4,none⟩=some k4/\u.cell? ⟨q,5,none⟩=some k5/\u.cell? ⟨q,6,none⟩=some k6/\u.cell? ⟨q,7,none⟩=some k7:=⟨Joins.cell_of_block h.e 2,Joins.cell_of_block h.e 3,Joins.cell_of_block h.e 4,Joins.cell_of_block h.e 5,Joins.cell_of_block h.e 6,Joins.cell_of_block h.e 7⟩
theorem Bx.put0(h:Bx w b q K t u x0 x1 x2 x3 y0 y1 z0 z1)(v:Value):Bx w b q K t (u.setCell ⟨b,0,none⟩ v) v x1 x2 x3 y0 y1 z0 z1:=
 ⟨Xx h.a v,(Below.heap_setCell _ _ _ _ (by have:=h.n;simp only;omega)).trans h.c,(Below.heap_setCell _ _ _ _ (by have:=h.n;simp only;omega)).trans h.d,(Below.heap_setCell _ _ _ _ (by have:=h.n;simp only;omega)).trans h.e,h.n,h.f.setCell (p:=⟨b,0,none⟩) (by simp only;omega) v⟩
theorem Bx.put1(h:Bx w b q K t u x0 x1 x2 x3 y0 y1 z0 z1)(v:Value):Bx w b q K t (u.setCell ⟨b,1,none⟩ v) x0 v x2 x3 y0 y1 z0 z1:=
 ⟨Xx h.a v,(Below.heap_setCell _ _ _ _ (by have:=h.n;simp only;omega)).trans h.c,(Below.heap_setCell _ _ _ _ (by have:=h.n;simp only;omega)).trans h.d,(Below.heap_setCell _ _ _ _ (by have:=h.n;simp only;omega)).trans h.e,h.n,h.f.setCell (p:=⟨b,1,none⟩) (by simp only;omega) v⟩
theorem Bx.put2(h:Bx w b q K t u x0 x1 x2 x3 y0 y1 z0 z1)(v:Value):Bx w b q K t (u.setCell ⟨b,2,none⟩ v) x0 x1 v x3 y0 y1 z0 z1:=
 ⟨Xx h.a v,(Below.heap_setCell _ _ _ _ (by have:=h.n;simp only;omega)).trans h.c,(Below.heap_setCell _ _ _ _ (by have:=h.n;simp only;omega)).trans h.d,(Below.heap_setCell _ _ _ _ (by have:=h.n;simp only;omega)).trans h.e,h.n,h.f.setCell (p:=⟨b,2,none⟩) (by simp only;omega) v⟩
theorem Bx.put3(h:Bx w b q K t u x0 x1 x2 x3 y0 y1 z0 z1)(v:Value):Bx w b q K t (u.setCell ⟨b,3,none⟩ v) x0 x1 x2 v y0 y1 z0 z1:=
 ⟨Xx h.a v,(Below.heap_setCell _ _ _ _ (by have:=h.n;simp only;omega)).trans h.c,(Below.heap_setCell _ _ _ _ (by have:=h.n;simp only;omega)).trans h.d,(Below.heap_setCell _ _ _ _ (by have:=h.n;simp only;omega)).trans h.e,h.n,h.f.setCell (p:=⟨b,3,none⟩) (by simp only;omega) v⟩
theorem Bx.put4(h:Bx w b q K t u x0 x1 x2 x3 y0 y1 z0 z1)(v:Value):Bx w b q K t (u.setCell ⟨b+1,0,none⟩ v) x0 x1 x2 x3 v y1 z0 z1:=
 ⟨(Below.heap_setCell _ _ _ _ (by have:=h.n;simp only;omega)).trans h.a,Xx h.c v,(Below.heap_setCell _ _ _ _ (by have:=h.n;simp only;omega)).trans h.d,(Below.heap_setCell _ _ _ _ (by have:=h.n;simp only;omega)).trans h.e,h.n,h.f.setCell (p:=⟨b+1,0,none⟩) (by simp only;omega) v⟩
theorem Bx.put5(h:Bx w b q K t u x0 x1 x2 x3 y0 y1 z0 z1)(v:Value):Bx w b q K t (u.setCell ⟨b+1,1,none⟩ v) x0 x1 x2 x3 y0 v z0 z1:=
 ⟨(Below.heap_setCell _ _ _ _ (by have:=h.n;simp only;omega)).trans h.a,Xx h.c v,(Below.heap_setCell _ _ _ _ (by have:=h.n;simp only;omega)).trans h.d,(Below.heap_setCell _ _ _ _ (by have:=h.n;simp only;omega)).trans h.e,h.n,h.f.setCell (p:=⟨b+1,1,none⟩) (by simp only;omega) v⟩
theorem Bx.put6(h:Bx w b q K t u x0 x1 x2 x3 y0 y1 z0 z1)(v:Value):Bx w b q K t (u.setCell ⟨b+1+1,0,none⟩ v) x0 x1 x2 x3 y0 y1 v z1:=
 ⟨(Below.heap_setCell _ _ _ _ (by have:=h.n;simp only;omega)).trans h.a,(Below.heap_setCell _ _ _ _ (by have:=h.n;simp only;omega)).trans h.c,Xx h.d v,(Below.heap_setCell _ _ _ _ (by have:=h.n;simp only;omega)).trans h.e,h.n,h.f.setCell (p:=⟨b+1+1,0,none⟩) (by simp only;omega) v⟩
theorem Bx.put7(h:Bx w b q K t u x0 x1 x2 x3 y0 y1 z0 z1)(v:Value):Bx w b q K t (u.setCell ⟨b+1+1,1,none⟩ v) x0 x1 x2 x3 y0 y1 z0 v:=
 ⟨(Below.heap_setCell _ _ _ _ (by have:=h.n;simp only;omega)).trans h.a,(Below.heap_setCell _ _ _ _ (by have:=h.n;simp only;omega)).trans h.c,Xx h.d v,(Below.heap_setCell _ _ _ _ (by have:=h.n;simp only;omega)).trans h.e,h.n,h.f.setCell (p:=⟨b+1+1,1,none⟩) (by simp only;omega) v⟩
end
theorem Xq8(s:ByteArray)(hs:s.size<=262144)(w:World)(hc:Xch w):Calls Tryz.prog 9 #[.string s] w (Xaa w (XhB (toks (bs s)))):=by
 obtain⟨b,hb⟩:∃b,b=w.heap.size:=⟨_,rfl⟩
 obtain⟨U1,qH,hN,hO,hP⟩:=boxed w (.cells #[.string ⟨#[]⟩,.int .i64 0,.slice none 0 0,.slice none 0 0] 25);obtain⟨U2,qI,hQ,hM,hT⟩:=boxed U1 (.cells #[.slice none 0 0,.slice none 0 0] 29);obtain⟨U,qJ,hG,hL,hU⟩:=boxed U2 (.cells #[.int .i64 0,.int .i64 0] 39);rw[<-hb] at hN hO hP;rw[hN] at hQ hT hM;rw[hQ] at hG hU hL;have pY:Below b w U:=(hO.trans (hM.mono (by omega))).trans (hL.mono (by omega));have qK:U.heap[b]? =some (.cells #[.string ⟨#[]⟩,.int .i64 0,.slice none 0 0,.slice none 0 0] 25 (0,0)):=(hL.block _ (by omega)).trans ((hM.block _ (by omega)).trans hP)
 have qL:U.heap[b+1]? =some (.cells #[.slice none 0 0,.slice none 0 0] 29 (0,0)):=(hL.block _ (by omega)).trans hT;have qM:U.heap[b+1+1]? =some (.cells #[.int .i64 0,.int .i64 0] 39 (0,0)):=hU;have HT:=Xa (XsK s hs U (hc.below (hb▸pY)));have qX:=Xa pY;have HU:=Xa (show((w.alloc (.cells #[.string ⟨#[]⟩,.int .i64 0,.slice none 0 0,.slice none 0 0] 25)).alloc (.cells #[.slice none 0 0,.slice none 0 0] 29)).alloc (.cells #[.int .i64 0,.int .i64 0] 39)=U by rw[<-qH,<-qI,<-qJ]);have HB:=Xa hb;have pQ:=Xa (And.intro qK (And.intro qL qM));clear qH hN hO hP qI hQ hM hT qJ hL hU pY hc hb qK qL qM
 obtain⟨x1,hx1⟩:∃x,x=toks (bs s):=⟨_,rfl⟩
 rw[<-hx1] at HT ⊢;have qN:=Xa hx1;clear hx1;go_enter Tryz.func9,Tryz.ntmps9;go_upto_region 1 with fail;rw[HU.out,<-HB.out];go_wp2_with fail;refine HT.out.mono ?_;rintro e w1 ⟨pC,hx⟩;have hx1:=qN.out;have pF:∀L,x1=.good L->∀t∈L,t.text.size<=1000000:=λL h t ht=>by
  have h1:=(Xid (hx1.symm.trans h)).2.2 t ht;have:(bs s).length=s.size:=XO s;omega
 have hlen:∀L,x1=.good L->L.length<=1000000:=λL h=>by
  have h1:=(Xid (hx1.symm.trans h)).2.1;have:(bs s).length=s.size:=XO s;omega
 have pZ:=Xa pF;have qY:=Xa hlen;have hsz:b+1+1+1<=w1.heap.size:=by rw[<-hG];exact pC.size
 have pR:w1.heap[b]? =_:=(pC.block b (by rw[hG];omega)).trans pQ.out.1;have pS:w1.heap[b+1]? =_:=(pC.block (b+1) (by rw[hG];omega)).trans pQ.out.2.1;have pT:w1.heap[b+1+1]? =_:=(pC.block (b+1+1) (by rw[hG];omega)).trans pQ.out.2.2;have qO:=Xa (qX.out.trans (pC.mono (show b<=U.heap.size by rw[hG];omega)));clear pC hx1 qN HT pF hlen pQ;have qA:∀(q:Int×Int),XhB x1=((XgY,XgX),q,7)->e=.returned (.tuple #[.pointer none,.agg #[.int .i64 q.1,.int .i64 q.2],.int .i64 7])->True:=λ_ _ _=>trivial;clear qA;have pG:(∃q:Int×Int,XhB x1=((XgY,XgX),q,7)/\e=.returned (.tuple #[.pointer none,.agg #[.int .i64 q.1,.int .i64 q.2],.int .i64 7]))\/
  ∃(x:Xl×Xp) (rb n:Nat) (tv:Value) (L:List Xh) (r:List Xh),x1=.good L/\Zr L=.ok (x,r)/\n<=1000000/\U.heap.size<=rb/\e=.returned (.tuple #[.pointer (some ⟨rb,0,none⟩),.agg #[.int .i64 0,.int .i64 0],.int .i64 0])/\RSt rb tv L n x.1 x.2 w1:=by
  cases x1 with
  |bad a c=>exact Or.inl ⟨(a,c),rfl,hx⟩
  |good L=>
   cases hr:Zr L with
   |error q=>
    simp only[hr] at hx;exact Or.inl ⟨q,by simp only[XhB,hr],hx⟩
   |ok v=>
    obtain⟨x,r⟩:=v;simp only[hr] at hx;obtain⟨rb,n,tv,h0,h1,h2,h3⟩:=hx;exact Or.inr ⟨x,rb,n,tv,L,r,rfl,hr,h0,h1,h2,h3⟩
 clear hx;rcases pG with ⟨q,hE,rfl⟩|⟨x,rb,n,tv,L,r,rfl,hr,qZ,rA,rfl,rB⟩
 ·have HE:=Xa hE;clear hE;obtain⟨q0,q1⟩:=q;go_upto_region 2 with fail;obtain⟨X,hX,pH,hH,pD⟩:=boxed w1 (.cells #[.int .i64 q0,.int .i64 q1] 39);obtain⟨g,hg⟩:∃g,g=w1.heap.size:=⟨_,rfl⟩
  rw[<-hg] at pD hH pH hsz;have pU:=Xa (And.intro ((hH.block b (by omega)).trans pR) (And.intro ((hH.block (b+1) (by omega)).trans pS) (And.intro ((hH.block (b+1+1) (by omega)).trans pT) pD)));have pI:=Xa (qO.out.trans (hH.mono (show b<=g by omega)));rw[<-hg] at*;rw[<-hX];have HX:=Xa hX;clear hX pH hH pD pR pS pT;have a0:=Bx.mk pU.out.1 pU.out.2.1 pU.out.2.2.1 pU.out.2.2.2 (by omega) pI.out;have a1:=a0.put0 (.string ⟨#[]⟩);have a2:=a1.put1 (.int .i64 0);have a3:=a2.put2 (.slice none 0 0);have a4:=a3.put3 (.slice none 0 0);have a5:=a4.put4 (.slice none 0 0);have a6:=a5.put5 (.slice none 0 0)
  have a7:=a6.put6 (.int .i64 q0);have a8:=a7.put7 (.int .i64 q1);have aC0:=a0.cells;have aE0:=a0.two;have aC1:=a1.cells;have aE1:=a1.two;have aC2:=a2.cells;have aE2:=a2.two;have aC3:=a3.cells;have aE3:=a3.two;have aC4:=a4.cells;have aE4:=a4.two;have aC5:=a5.cells;have aE5:=a5.two;have aC6:=a6.cells;have aE6:=a6.two;have aC7:=a7.cells;have aE7:=a7.two;have aC8:=a8.cells;have aE8:=a8.two;have hY:=Xa a8.f;clear a0 a1 a2 a3 a4 a5 a6 a7 a8;go_wp2_with fail;go_region
  all_goals
   go_simp;go_wp2_with fail;refine bodyPost_ret (v:=.tuple #[.agg #[.string ⟨#[]⟩,.int .i64 0,.slice none 0 0,.slice none 0 0],.agg #[.slice none 0 0,.slice none 0 0],.agg #[.int .i64 q0,.int .i64 q1],.int .i64 7]) (by simp[results,Tryz.results9,go_sem,aC8]) rfl ?_;rw[HE.out];exact Xaa.zero (HB.out▸hY.out.drew) (q0,q1) 7
 ·have HR:=Xa hr;obtain⟨S,R,C,A,pJ,hS,hR,hC,hA⟩:=rB;have qP:w1.heap[rb]? =some (.cells #[tv,.int .i64 n,.string x.1.name,.int .i64 x.1.aH,.slice S.A S.l.length S.cap,.slice R.A R.l.length R.cap,.slice C.A C.l.length C.cap,.slice A.A A.l.length A.cap] 96 (0,0)):=pJ.rd.box;have qB:=pJ.rd.lt;have qC:=XuG (pZ.out L rfl) x r hr;have hZ:Xf.pl ⟨x.1.name,x.1.aH,S,R⟩=x.1:=by
   show Xl.mk x.1.name x.1.aH (S.l.map Xd.pl) R.l=x.1;rw[hS,hR]
  have pA:Xq.pl ⟨C,A⟩=x.2:=by
   show Xp.mk (C.l.map Xn.pl) A.l=x.2;rw[hC,hA]
  have pK:=Xtz hZ qC.1.1;have pL:=XsC pA qC.1.2;have qQ:∀q∈C.l,q.aD.l.length<=1000000:=λq hq=>Nat.le_trans (XoA pJ.cnt q hq) qZ;have pV:=Xa (And.intro hZ pA);have pW:=Xa (And.intro pK (And.intro pL qQ));have pM:=Xa pJ.rows;rw[hG] at rA;clear hr hS hR hC hA qC pJ hZ pA pK pL qQ;obtain⟨⟨hI,hJ,qD,qE⟩,cc⟩:=x;simp only at*;go_upto_region 2 with fail;obtain⟨X,hX,pH,hH,pD⟩:=boxed w1 (.cells #[.int .i64 0,.int .i64 0] 39);obtain⟨g,hg⟩:∃g,g=w1.heap.size:=⟨_,rfl⟩
  rw[<-hg] at pD hH pH hsz qB;rw[<-hX,<-hg];have qR:=(hH.block b (by omega)).trans pR;have qS:=(hH.block (b+1) (by omega)).trans pS;have qT:=(hH.block (b+1+1) (by omega)).trans pT;have qF:=(hH.block rb (by omega)).trans qP;have pI:=Xa (qO.out.trans (hH.mono (show b<=g by omega)));have hD:Rows (rb+1) X (XE S R C A):=by
   rw[hX];exact pM.out.kept (row:=none) (World.grownBy_alloc w1 _ none) (λk hk=>by cases hk)
  have KV:=Xa (Xc.first (Yf ⟨hI,hJ,S,R⟩ pW.out.1 X X.heap.size nr (Xio hD hI hJ)));have KW:=Xa (λy:Xb X.heap.size X=>Xc.after (x:=y) nr (Xcl ⟨C,A⟩ pW.out.2.1 y.val X.heap.size y.size ((Xin hD).to y.below nr) pW.out.2.2));have pN:Xv ⟨hI,hJ,S,R⟩=Yn ⟨hI,hJ,qD,qE⟩:=by rw[Zi,pV.out.1]
  have pO:Jr ⟨C,A⟩=YQ cc:=by rw[Xfv,pV.out.2]
  have qG:=Xa pN;have qU:=Xa pO;have pB:=λy:Xb X.heap.size X=>Joins.cell_of_block ((y.below.block rb (by omega)).trans qF);have pE:∀y:Xb X.heap.size X,y.val.cell? ⟨rb,2,none⟩=some (.string hI)/\y.val.cell? ⟨rb,3,none⟩=some (.int .i64 hJ)/\y.val.cell? ⟨rb,4,none⟩=some (.slice S.A S.l.length S.cap)/\y.val.cell? ⟨rb,5,none⟩=some (.slice R.A R.l.length R.cap)/\y.val.cell? ⟨rb,6,none⟩=some (.slice C.A C.l.length C.cap)/\y.val.cell? ⟨rb,7,none⟩=some (.slice A.A A.l.length A.cap):=
   λy=>⟨(pB y 2).trans rfl,(pB y 3).trans rfl,(pB y 4).trans rfl,(pB y 5).trans rfl,(pB y 6).trans rfl,(pB y 7).trans rfl⟩
  have pX:=pE (Xb.refl _ _);simp only[Xb.refl] at pX;have pP:=Xa hD;have hK:=Xa (And.intro qR (And.intro qS (And.intro qT qF)));have rD:g<X.heap.size:=by omega
  clear hX pH pD pR pS pT qP qR qS qT qF hD pN pO pB;cases hV:Yn ⟨hI,hJ,qD,qE⟩
  ·have HE:=Xa (show XhB (.good L)=((XgY,XgX),(0,0),1) by simp only[XhB,HR.out,hV,Bool.false_and];rfl);go_upto_region 5 with (go_at_call 22;refine KV.out.mono ?_;rintro e w' ⟨rfl,y,rfl⟩;rw[qG.out,hV])
   have b0:=Bx.mk ((y.below.block b (by omega)).trans hK.out.1) ((y.below.block (b+1) (by omega)).trans hK.out.2.1) ((y.below.block (b+1+1) (by omega)).trans hK.out.2.2.1) ((y.below.block rb (by omega)).trans hK.out.2.2.2) (by omega) (pI.out.trans (y.below.mono (show b<=X.heap.size by omega)));have b1:=b0.put0 (.string ⟨#[]⟩);have b2:=b1.put1 (.int .i64 0);have b3:=b2.put2 (.slice none 0 0);have b4:=b3.put3 (.slice none 0 0);have b5:=b4.put4 (.slice none 0 0);have b6:=b5.put5 (.slice none 0 0);have b7:=b6.put6 (.int .i64 0);have b8:=b7.put7 (.int .i64 0);have bC0:=b0.cells;have bE0:=b0.eight
   have bC1:=b1.cells;have bE1:=b1.eight;have bC2:=b2.cells;have bE2:=b2.eight;have bC3:=b3.cells;have bE3:=b3.eight;have bC4:=b4.cells;have bE4:=b4.eight;have bC5:=b5.cells;have bE5:=b5.eight;have bC6:=b6.cells;have bE6:=b6.eight;have bC7:=b7.cells;have bE7:=b7.eight;have bC8:=b8.cells;have bE8:=b8.eight;have hY:=Xa b8.f;clear b0 b1 b2 b3 b4 b5 b6 b7 b8;clear pE pX;go_wp2_with fail;refine bodyPost_ret (v:=.tuple #[.agg #[.string ⟨#[]⟩,.int .i64 0,.slice none 0 0,.slice none 0 0],.agg #[.slice none 0 0,.slice none 0 0],.agg #[.int .i64 0,.int .i64 0],.int .i64 1]) (by simp[results,Tryz.results9,go_sem,bC8]) rfl ?_
   rw[HE.out];exact Xaa.zero (HB.out▸hY.out) (0,0) 1
  ·cases hW:YQ cc
   ·have HE:=Xa (show XhB (.good L)=((XgY,XgX),(0,0),1) by simp only[XhB,HR.out,hV,hW,Bool.and_false];rfl)
    go_upto_region 5 with (first
     |(go_at_call 22;refine KV.out.mono ?_;rintro e w' ⟨rfl,y0,rfl⟩;rw[qG.out,hV];have qV:=pE y0)
     |(go_at_call 26;refine(KW.out y0).mono ?_;rintro e w' ⟨rfl,y,rfl⟩;rw[qU.out,hW]))
    have b0:=Bx.mk ((y.below.block b (by omega)).trans hK.out.1) ((y.below.block (b+1) (by omega)).trans hK.out.2.1) ((y.below.block (b+1+1) (by omega)).trans hK.out.2.2.1) ((y.below.block rb (by omega)).trans hK.out.2.2.2) (by omega) (pI.out.trans (y.below.mono (show b<=X.heap.size by omega)));have b1:=b0.put0 (.string ⟨#[]⟩);have b2:=b1.put1 (.int .i64 0);have b3:=b2.put2 (.slice none 0 0);have b4:=b3.put3 (.slice none 0 0);have b5:=b4.put4 (.slice none 0 0);have b6:=b5.put5 (.slice none 0 0);have b7:=b6.put6 (.int .i64 0);have b8:=b7.put7 (.int .i64 0);have bC0:=b0.cells;have bE0:=b0.eight
    have bC1:=b1.cells;have bE1:=b1.eight;have bC2:=b2.cells;have bE2:=b2.eight;have bC3:=b3.cells;have bE3:=b3.eight;have bC4:=b4.cells;have bE4:=b4.eight;have bC5:=b5.cells;have bE5:=b5.eight;have bC6:=b6.cells;have bE6:=b6.eight;have bC7:=b7.cells;have bE7:=b7.eight;have bC8:=b8.cells;have bE8:=b8.eight;have hY:=Xa b8.f;clear b0 b1 b2 b3 b4 b5 b6 b7 b8;clear pE pX;go_wp2_with fail;refine bodyPost_ret (v:=.tuple #[.agg #[.string ⟨#[]⟩,.int .i64 0,.slice none 0 0,.slice none 0 0],.agg #[.slice none 0 0,.slice none 0 0],.agg #[.int .i64 0,.int .i64 0],.int .i64 1]) (by simp[results,Tryz.results9,go_sem,bC8]) rfl ?_
    rw[HE.out];exact Xaa.zero (HB.out▸hY.out) (0,0) 1
   ·have HE:=Xa (show XhB (.good L)=((⟨hI,hJ,qD,qE⟩,cc),(0,0),0) by simp only[XhB,HR.out,hV,hW,Bool.and_self];rfl)
    go_upto_region 6 with (first
     |(go_at_call 22;refine KV.out.mono ?_;rintro e w' ⟨rfl,y0,rfl⟩;rw[qG.out,hV];have qV:=pE y0)
     |(go_at_call 26;refine(KW.out y0).mono ?_;rintro e w' ⟨rfl,y,rfl⟩;rw[qU.out,hW]))
    have rC:=Xa (show Rows (rb+1) y.val (XE S R C A) from pP.out.kept (row:=none) (XD y.below) (λk hk=>by cases hk));have b0:=Bx.mk ((y.below.block b (by omega)).trans hK.out.1) ((y.below.block (b+1) (by omega)).trans hK.out.2.1) ((y.below.block (b+1+1) (by omega)).trans hK.out.2.2.1) ((y.below.block rb (by omega)).trans hK.out.2.2.2) (by omega) (pI.out.trans (y.below.mono (show b<=X.heap.size by omega)));have b1:=b0.put0 (.string hI);have b2:=b1.put1 (.int .i64 hJ);have b3:=b2.put2 (.slice S.A S.l.length S.cap);have b4:=b3.put3 (.slice R.A R.l.length R.cap);have b5:=b4.put4 (.slice C.A C.l.length C.cap)
    have b6:=b5.put5 (.slice A.A A.l.length A.cap);have b7:=b6.put6 (.int .i64 0);have b8:=b7.put7 (.int .i64 0);have bC0:=b0.cells;have bE0:=b0.eight;have bC1:=b1.cells;have bE1:=b1.eight;have bC2:=b2.cells;have bE2:=b2.eight;have bC3:=b3.cells;have bE3:=b3.eight;have bC4:=b4.cells;have bE4:=b4.eight;have bC5:=b5.cells;have bE5:=b5.eight;have bC6:=b6.cells;have bE6:=b6.eight;have bC7:=b7.cells;have bE7:=b7.eight;have bC8:=b8.cells;have bE8:=b8.eight;have hY:=Xa b8.f;clear b0 b1 b2 b3 b4 b5 b6 b7 b8;have qW:=Xa (((((((((rC.out).kept (XX (World.grownBy.refl _ (some (b))) (i:=0) (v:=.string hI)) (λk hk=>by injection hk with hk;omega)).kept (XX (World.grownBy.refl _ (some (b))) (i:=1) (v:=.int .i64 hJ)) (λk hk=>by injection hk with hk;omega)).kept (XX (World.grownBy.refl _ (some (b))) (i:=2) (v:=.slice S.A S.l.length S.cap)) (λk hk=>by injection hk with hk;omega)).kept (XX (World.grownBy.refl _ (some (b))) (i:=3) (v:=.slice R.A R.l.length R.cap)) (λk hk=>by injection hk with hk;omega)).kept (XX (World.grownBy.refl _ (some (b+1))) (i:=0) (v:=.slice C.A C.l.length C.cap)) (λk hk=>by injection hk with hk;omega)).kept (XX (World.grownBy.refl _ (some (b+1))) (i:=1) (v:=.slice A.A A.l.length A.cap)) (λk hk=>by injection hk with hk;omega)).kept (XX (World.grownBy.refl _ (some (b+1+1))) (i:=0) (v:=.int .i64 0)) (λk hk=>by injection hk with hk;omega)).kept (XX (World.grownBy.refl _ (some (b+1+1))) (i:=1) (v:=.int .i64 0)) (λk hk=>by injection hk with hk;omega))
    clear pE pX qV;go_region
    all_goals
     go_simp;go_wp2_with fail;refine bodyPost_ret (v:=.tuple #[.agg #[.string hI,.int .i64 hJ,.slice S.A S.l.length S.cap,.slice R.A R.l.length R.cap],.agg #[.slice C.A C.l.length C.cap,.slice A.A A.l.length A.cap],.agg #[.int .i64 0,.int .i64 0],.int .i64 0]) (by simp[results,Tryz.results9,go_sem,bC8]) rfl ?_;rw[HE.out];exact⟨HB.out▸hY.out.drew,⟨hI,hJ,S,R⟩,⟨C,A⟩,rfl,Xio (qW.out.kept (row:=none) (XD brf.drew) (λk hk=>by cases hk)) hI hJ,Xin (qW.out.kept (row:=none) (XD brf.drew) (λk hk=>by cases hk)),pV.out.1,pV.out.2,pW.out⟩
end Go.Proofs.YtdcahhbipeaggaaGreatDoor
