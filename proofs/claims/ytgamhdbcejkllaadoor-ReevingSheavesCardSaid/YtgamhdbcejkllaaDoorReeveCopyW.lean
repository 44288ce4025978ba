/- loftblockref10.Copy: the walk. -/
import Derived.Test.YtgamhdbcejkllaaDoorReeveCopy
import Derived.Test.YtgamhdbcejkllaaDoorReevePull
namespace Go.Proofs.YtgamhdbcejkllaaDoor
open Go.RowKit

def ropeC (G H : Nat → Nat) (rl : List RopeD) (p : Nat) : RopeD := ⟨(fnOf rl p).name, ⟨some ⟨G p, 0, none⟩, H p, (fnOf rl p).holds.l⟩, (fnOf rl p).hauled⟩
def ropesC (G H : Nat → Nat) (rl : List RopeD) (k : Nat) : List RopeD := (List.range k).map (ropeC G H rl)
theorem ropesC_length (G H : Nat → Nat) (rl : List RopeD) (k : Nat) : (ropesC G H rl k).length = k := by simp [ropesC]
theorem ropesC_next (G H : Nat → Nat) (rl : List RopeD) (k : Nat) : ropesC G H rl (k + 1) = ropesC G H rl k ++ [ropeC G H rl k] := by simp [ropesC, List.range_succ]
theorem ropesC_congr {G H G' H' : Nat → Nat} {rl : List RopeD} {k : Nat} (h : ∀ p, p < k → G p = G' p ∧ H p = H' p) : ropesC G H rl k = ropesC G' H' rl k := by
  unfold ropesC
  apply List.map_congr_left
  intro p hp
  obtain ⟨h1, h2⟩ := h p (List.mem_range.1 hp)
  rw [ropeC, ropeC, h1, h2]

/-- the block g has room for cap holds -/
def Room (w : World) (g cap : Nat) : Prop := ∃ cur : Array Value, w.heap[g]? = some (.cells cur 47 (0, 0)) ∧ cur.size = cap * 4
theorem Room.of_block {w w' : World} {g cap : Nat} (h : Room w g cap) (hb : w'.heap[g]? = w.heap[g]?) : Room w' g cap := by
  obtain ⟨cur, h1, h2⟩ := h
  exact ⟨cur, hb.trans h1, h2⟩
theorem own_room {w : World} {base g m cap n : Nat} {xs : List Value} (h : w.ownsRow base 47 4 (.slice (some ⟨g, 0, none⟩) m cap) n xs) : Room w g cap := by
  rcases h.2 with ⟨h1, _⟩ | ⟨g', cap', cur, hv, hg, hh, hnc, hcm, hcs, htake⟩
  · cases h1
  · injection hv with h1 _ h3
    injection h1 with h1
    injection h1 with h1
    subst h1 h3
    exact ⟨cur, hh, hcs⟩
/-- while the copy is made: k ropes are done -/
structure CSt (W : World) (base o r gb capb : Nat) (bl : List BlockD) (rl : List RopeD) (k : Nat) (G H : Nat → Nat) (u : Value) (x : World) : Prop where
  bel : Below W.heap.size W x
  lo : W.heap.size ≤ r ∧ r < gb ∧ gb < o ∧ o < base ∧ base ≤ x.heap.size
  out : x.heap[o]? = some (.cells #[.slice (some ⟨gb, 0, none⟩) bl.length capb, u] 25 (0, 0))
  res : x.heap[r]? = some (.cells #[.slice none 0 0, .slice none 0 0] 25 (0, 0))
  blk : RowFn x gb 37 2 bl.length BlockD.cells (fnOf bl)
  own : x.ownsRow base 40 3 u k ((ropesC G H rl k).flatMap RopeD.cells)
  holds : ∀ p, p < k → RowFn x (G p) 47 4 (fnOf rl p).holds.l.length HoldD.cells (fnOf (fnOf rl p).holds.l) ∧ base ≤ G p ∧ (fnOf rl p).holds.l.length ≤ H p ∧ H p ≤ maxLen
  inc : ∀ p q, p < q → q < k → G p < G q
  room : ∀ p, p < k → Room x (G p) (H p)
section
variable {W x y : World} {base o r gb capb k : Nat} {bl : List BlockD} {rl : List RopeD} {G H : Nat → Nat} {u : Value}
theorem CSt.more (h : CSt W base o r gb capb bl rl k G H u x) (hb : Below x.heap.size x y) : CSt W base o r gb capb bl rl k G H u y := by
  obtain ⟨h1, h2, h3, h4, h5⟩ := h.lo
  have hs := hb.size
  exact ⟨h.bel.trans (hb.mono h.bel.size), ⟨h1, h2, h3, h4, by omega⟩, (hb.block _ (by omega)).trans h.out, (hb.block _ (by omega)).trans h.res, h.blk.of_block (hb.block _ (by omega)), own_below h.own hb,
    fun p hp => ⟨(h.holds p hp).1.of_block (hb.block _ (h.holds p hp).1.lt), (h.holds p hp).2⟩, h.inc, fun p hp => (h.room p hp).of_block (hb.block _ (h.holds p hp).1.lt)⟩
theorem RowFn.ne {α β : Type} {w : World} {g g' : Nat} {t t' : TypeId} {size n size' n' : Nat} {cells : α → List Value} {X : Nat → α} {cells' : β → List Value} {Y : Nat → β} (h : RowFn w g t size n cells X) (h' : RowFn w g' t' size' n' cells' Y) (ht : t ≠ t') : g ≠ g' := fun e => by
  obtain ⟨c, h1, _⟩ := h
  obtain ⟨c', h2, _⟩ := h'
  subst e
  rw [h1] at h2; injection h2 with h2; injection h2 with _ h3
  exact ht h3
/-- one rope more -/
theorem CSt.append {z q w' : World} {v' : Value} {g cap : Nat} (h : CSt W base o r gb capb bl rl k G H u x) (hz : Below x.heap.size x z) (hg : x.heap.size ≤ g) (hrow : RowFn z g 47 4 (fnOf rl k).holds.l.length HoldD.cells (fnOf (fnOf rl k).holds.l)) (hcap : (fnOf rl k).holds.l.length ≤ cap ∧ cap ≤ maxLen) (hroom : Room z g cap)
    (hq : Below z.heap.size z q) (hown : w'.ownsRow base 40 3 v' (k + 1) ((ropesC G H rl k).flatMap RopeD.cells ++ RopeD.cells ⟨(fnOf rl k).name, ⟨some ⟨g, 0, none⟩, cap, (fnOf rl k).holds.l⟩, (fnOf rl k).hauled⟩)) (hgr : q.grownBy w' u.ownBlock) :
    CSt W base o r gb capb bl rl (k + 1) (fun p => if p = k then g else G p) (fun p => if p = k then cap else H p) v' (w'.setCell ⟨o, 1, none⟩ v') := by
  have hst := (h.more hz).more hq
  obtain ⟨h1, h2, h3, h4, h5⟩ := hst.lo
  have hb : Below base q w' := Below.grown (Below.refl _ _) hgr h5 (own_owner h.own)
  have hrow2 : RowFn q g 47 4 (fnOf rl k).holds.l.length HoldD.cells (fnOf (fnOf rl k).holds.l) := hrow.of_block (hq.block g hrow.lt)
  have keepB : ∀ (g' : Nat) (n : Nat) (X : Nat → HoldD), RowFn q g' 47 4 n HoldD.cells X → w'.heap[g']? = q.heap[g']? := fun g' n X hr => by
    refine hgr.block g' hr.lt fun e => ?_
    rcases hst.own.2 with ⟨hv, _⟩ | ⟨g2, cap2, cur, hv, _, hh, _⟩
    · rw [hv] at e; simp [Value.ownBlock] at e
    · rw [hv] at e; simp [Value.ownBlock] at e
      subst e
      obtain ⟨c, hc, _⟩ := hr
      rw [hh] at hc; injection hc with hc; injection hc with _ e4
      exact absurd e4 (by decide)
  have keep : ∀ (g' : Nat) (n : Nat) (X : Nat → HoldD), RowFn q g' 47 4 n HoldD.cells X → RowFn w' g' 47 4 n HoldD.cells X := fun g' n X hr => hr.of_block (keepB g' n X hr)
  have hset : ∀ j, j ≠ o → (w'.setCell ⟨o, 1, none⟩ v').heap[j]? = w'.heap[j]? := fun j hj => RowKit.Below.heap_setCell _ _ _ _ hj
  have hout : w'.heap[o]? = some (.cells #[.slice (some ⟨gb, 0, none⟩) bl.length capb, u] 25 (0, 0)) := (hb.block o (by omega)).trans hst.out
  have hs' := hb.size
  refine ⟨(hst.bel.trans (hb.mono (by omega))).setCell (p := ⟨o, 1, none⟩) (by simp only; omega) _, ⟨h1, h2, h3, h4, by simp [World.setCell]; omega⟩, by rw [block_set hout]; rfl, (hset r (by omega)).trans ((hb.block r (by omega)).trans hst.res), hst.blk.of_block ((hset gb (by omega)).trans (hb.block gb (by omega))), ?_, fun p hp => ?_, fun p p' hlt hp => ?_, fun p hp => ?_⟩
  · have e1 : ropesC (fun p => if p = k then g else G p) (fun p => if p = k then cap else H p) rl (k + 1) = ropesC G H rl k ++ [⟨(fnOf rl k).name, ⟨some ⟨g, 0, none⟩, cap, (fnOf rl k).holds.l⟩, (fnOf rl k).hauled⟩] := by
      rw [ropesC_next, ropesC_congr (G' := G) (H' := H) (fun p hp => by simp [show p ≠ k by omega])]
      simp [ropeC]
    rw [e1, List.flatMap_append]
    refine own_block (by simpa using hown) fun g2 hg2 => hset g2 fun e => ?_
    have := own_owner hown g2 hg2
    omega
  · by_cases e : p = k
    · subst e
      simp only [if_true]
      exact ⟨(keep _ _ _ hrow2).of_block (hset g (by have := h.lo; omega)), by have := h.lo; omega, hcap⟩
    · simp only [e, if_false]
      have hp' : p < k := by omega
      obtain ⟨a1, a2⟩ := hst.holds p hp'
      exact ⟨(keep _ _ _ a1).of_block (hset _ (by omega)), a2⟩
  · by_cases e : p' = k
    · subst e
      have hp' : p ≠ p' := by omega
      simp only [if_true, hp', if_false]
      exact Nat.lt_of_lt_of_le (h.holds p hlt).1.lt hg
    · simp only [e, if_false, show p ≠ k by omega]
      exact h.inc p p' hlt (by omega)
  · by_cases e : p = k
    · subst e
      simp only [if_true]
      exact ((hroom.of_block (hq.block g hrow.lt)).of_block (keepB _ _ _ hrow2)).of_block (hset g (by have := h.lo; omega))
    · simp only [e, if_false]
      obtain ⟨a1, a2⟩ := hst.holds p (by omega)
      exact ((hst.room p (by omega)).of_block (keepB _ _ _ a1)).of_block (hset _ (by omega))
end
/-- s' is a copy of s in blocks of its own, all of them from base on -/
structure Copied (w : World) (base : Nat) (s s' : SysD) : Prop where
  blocks : s'.blocks.l = s.blocks.l
  bA : ∃ g, s'.blocks.A = some ⟨g, 0, none⟩ ∧ base ≤ g ∧ RowFn w g 37 2 s.blocks.l.length BlockD.cells (fnOf s.blocks.l)
  bcap : s.blocks.l.length ≤ s'.blocks.cap ∧ s'.blocks.cap ≤ maxLen
  ropes : ∃ (gr : Nat) (G H : Nat → Nat), s'.ropes.A = some ⟨gr, 0, none⟩ ∧ base ≤ gr ∧ s'.ropes.l = ropesC G H s.ropes.l s.ropes.l.length ∧ RowFn w gr 40 3 s.ropes.l.length RopeD.cells (fnOf s'.ropes.l) ∧
    (∀ p, p < s.ropes.l.length → RowFn w (G p) 47 4 (fnOf s.ropes.l p).holds.l.length HoldD.cells (fnOf (fnOf s.ropes.l p).holds.l) ∧ base ≤ G p ∧ (fnOf s.ropes.l p).holds.l.length ≤ H p ∧ H p ≤ maxLen) ∧ (∀ p q, p < q → q < s.ropes.l.length → G p < G q) ∧ ∀ p, p < s.ropes.l.length → Room w (G p) (H p)
  rcap : s.ropes.l.length ≤ s'.ropes.cap ∧ s'.ropes.cap ≤ maxLen
theorem own_empty {w : World} {g : Nat} {e : TypeId} {size : Nat} (h : w.heap[g]? = some (.cells #[] e (0, 0))) : w.ownsRow g e size (.slice (some ⟨g, 0, none⟩) 0 0) 0 [] :=
  ⟨by simp, Or.inr ⟨g, 0, #[], rfl, Nat.le_refl _, h, Nat.le_refl _, by simp [maxLen], by simp, by simp⟩⟩
theorem infoBlock : (Tryd.prog.info? 37).map (fun i => (i.zero, i.size, i.bytes)) = some (some (.agg #[.string ⟨#[]⟩, .int .i64 0]), 2, 24) := by kernel_rfl
theorem infoHold : (Tryd.prog.info? 47).map (fun i => (i.zero, i.size, i.bytes)) = some (some (.agg #[.string ⟨#[]⟩, .int .i64 0, .int .i64 0, .int .i64 0]), 4, 40) := by kernel_rfl
theorem infoRope : (Tryd.prog.info? 40).map (fun i => (i.zero, i.size, i.bytes)) = some (some (.agg #[.string ⟨#[]⟩, .slice none 0 0, .bool false]), 3, 48) := by kernel_rfl
set_option maxRecDepth 100000 in
set_option maxHeartbeats 8000000 in
theorem copy_any (s : SysD) (hv : sysOk s = true) (w : World) (B : Nat) (hB : B ≤ w.heap.size) (hat : SysD.at_ w B s) :
    Calls Tryd.prog 17 #[.agg #[.slice s.blocks.A s.blocks.l.length s.blocks.cap, .slice s.ropes.A s.ropes.l.length s.ropes.cap]] w fun e w' => ∃ s', e = .returned (.agg #[.slice s'.blocks.A s'.blocks.l.length s'.blocks.cap, .slice s'.ropes.A s'.ropes.l.length s'.ropes.cap]) ∧ Copied w' w.heap.size s s' ∧ Below w.heap.size w w' := by
  obtain ⟨⟨hR1, hR6, hC1, hC6⟩, _, _⟩ := sysOk_parts hv
  obtain ⟨W, hW, hWs, hWb, hWh⟩ := boxed w (.cells #[.slice s.blocks.A s.blocks.l.length s.blocks.cap, .slice s.ropes.A s.ropes.l.length s.ropes.cap] 25)
  have hc := fun y : After W.heap.size W => SysD.boxed hWh (by omega) y
  have hatW : SysD.at_ W W.heap.size s := hat.to (hWb.mono hB) (by omega)
  have hl10 : ∀ r ∈ s.ropes.l, 2 ≤ r.holds.l.length ∧ r.holds.l.length ≤ 10 := fun r hr => ⟨(ropeOk_parts (ropeOk_of hv hr)).1, (ropeOk_parts (ropeOk_of hv hr)).2.1⟩
  have HL10 := hide hl10
  have HSB := hide hatW.blocks
  have HSR := hide hatW.ropes
  have HEA := hide hatW.each
  have hmb : s.blocks.cap ≤ 9223372036854775807 := hat.blocks.2.1
  have hlb : s.blocks.l.length ≤ s.blocks.cap := hat.blocks.1
  have hmr : s.ropes.cap ≤ 9223372036854775807 := hat.ropes.2.1
  have hlr : s.ropes.l.length ≤ s.ropes.cap := hat.ropes.1
  have HW := hide hW
  have HWs := hide hWs
  have HWb := hide hWb
  clear hW hWs hWh hWb hat hatW hv hl10
  obtain ⟨⟨A, cap, l⟩, ⟨A', cap', l'⟩⟩ := s
  simp only at *
  obtain ⟨bb, bo, hbA, hbb, hbc⟩ := HSB.out.2.2 (show 0 < l.length by omega)
  simp only at hbA
  subst hbA
  obtain ⟨rb, ro, hrA, hrb, hrc⟩ := HSR.out.2.2 (show 0 < l'.length by omega)
  simp only at hrA
  subst hrA
  have HBC := hide hbc
  have HRC := hide hrc
  obtain ⟨i0, hi, hz0, hz1, hz2⟩ := info_parts infoBlock
  obtain ⟨i1, hj, hy0, hy1, hy2⟩ := info_parts infoHold
  obtain ⟨i2, hk, hx0, hx1, hx2⟩ := info_parts infoRope
  have HI := hide (And.intro hi (And.intro hz0 (And.intro hz1 hz2)))
  have HJ := hide (And.intro hj (And.intro hy0 (And.intro hy1 hy2)))
  have HK := hide (And.intro hk (And.intro hx0 (And.intro hx1 hx2)))
  clear hbc hrc hi hz0 hz1 hz2 hj hy0 hy1 hy2 hk hx0 hx1 hx2
  have hcc := fun o1 o2 => hc ⟨(W.alloc o1).alloc o2, ((Below.refl _ _).alloc (Nat.le_refl _) _).alloc (by simp) _⟩
  simp only at hcc
  have hcc1 := fun o1 => hc ⟨(W.alloc o1), ((Below.refl _ _).alloc (Nat.le_refl _) _)⟩
  simp only at hcc1
  have hcc0 := hc (After.refl _ _)
  simp only [After.refl] at hcc0
  obtain ⟨W2, hW2, hs2, hb2, hh2⟩ := boxed W (.cells #[.slice none 0 0, .slice none 0 0] 25)
  obtain ⟨W3, hW3, hs3, hb3, hh3⟩ := boxed W2 (.cells #[] 37)
  have hs1 := HWs.out
  rw [hs1] at hs2 hh2
  rw [hs2] at hs3 hh3
  have HW3 := hide (show W3 = (((w.alloc (.cells #[.slice (some ⟨bb, bo, none⟩) l.length cap, .slice (some ⟨rb, ro, none⟩) l'.length cap'] 25)).alloc (.cells #[.slice none 0 0, .slice none 0 0] 25)).alloc (.cells #[] 37)) by rw [hW3, hW2, HW.out])
  have hbW3 : Below W.heap.size W W3 := hb2.trans (hb3.mono (by omega))
  have hnews := slAt_news (cells := BlockD.cells) (size := 2) (fun _ => rfl) (fun i x hx j u hu => (hbW3.cell (p := ⟨bb, bo + (i * 2 + j), none⟩) hbb).trans (HBC.out i x hx j u hu))
  go_enter Tryd.func17, Tryd.ntmps17
  go_wp2_with (at_builtin; refine Hid.out ?_)
  rw [← HW3.out]
  refine Lib.hid ?_
  refine wpList_append_own _ rfl _ _ 22 rfl (w.heap.size + 1 + 1) 37 i0 _ 2 24 Tryd.underlying22 HI.out.1 HI.out.2.1 HI.out.2.2.1 HI.out.2.2.2 rfl (by decide) _ _ _ rfl (own_empty hh3) ⟨bb, bo, none⟩ l.length cap (l.flatMap BlockD.cells) rfl (flat_len (cells := BlockD.cells) (size := 2) (fun _ => rfl) l) hnews (fun u hu => by
    obtain ⟨x, _, hx⟩ := List.mem_flatMap.1 hu
    simp [BlockD.cells] at hx; rcases hx with rfl | rfl <;> rfl) (by unfold maxLen; omega) (by omega) (by omega) ?_
  intro v1 w1 hown hgr _
  rw [Nat.zero_add, List.nil_append] at hown
  obtain ⟨gb, capb, rfl, hgb, hcb1, hcb2, hblk⟩ := own_rowFn (cells := BlockD.cells) (fun _ => rfl) hown (fun h => by rw [h] at hR1; simp at hR1)
  have hb31 : Below (w.heap.size + 1 + 1) W3 w1 := Below.byMap hgr (Nat.le_refl _) (by omega)
  have hbW1 : Below W.heap.size W w1 := hbW3.trans (hb31.mono (by omega))
  have hres1 : w1.heap[w.heap.size + 1]? = some (.cells #[.slice none 0 0, .slice none 0 0] 25 (0, 0)) := (hb31.block _ (by omega)).trans ((hb3.block _ (by omega)).trans hh2)
  have hgl := hblk.lt
  obtain ⟨X, hX, hXs, hXb, hXh⟩ := boxed w1 (.cells #[.slice (some ⟨gb, 0, none⟩) l.length capb, .slice none 0 0] 25)
  have hcX := hc ⟨X, hbW1.trans (hXb.mono hbW1.size)⟩
  simp only at hcX
  have hc1 := hc ⟨w1, hbW1⟩
  simp only at hc1
  have HC0 := hide (show CSt W X.heap.size w1.heap.size (w.heap.size + 1) gb capb l l' 0 (fun _ => 0) (fun _ => 0) (.slice none 0 0) X from
    ⟨hbW1.trans (hXb.mono hbW1.size), ⟨by omega, by omega, by omega, by omega, Nat.le_refl _⟩, hXh, (hXb.block _ (by omega)).trans hres1, hblk.of_block (hXb.block _ (by omega)), by simpa [ropesC] using own_nil X X.heap.size 40 3, fun p hp => absurd hp (by omega), fun p q _ hq => absurd hq (by omega), fun p hp => absurd hp (by omega)⟩)
  have HX := hide hX
  have HCB := hide (And.intro hcb1 hcb2)
  clear hX hXb hXh hown hgr hblk hb31 hbW1 hres1 hnews hh2 hh3 hbW3 hW2 hW3 hb2 hb3 hcc hcc1 hcc0
  go_wp2
  rw [← HX.out]
  obtain ⟨o, ho⟩ : ∃ o, o = w1.heap.size := ⟨_, rfl⟩
  rw [← ho] at HC0 ⊢
  obtain ⟨base, hbase⟩ : ∃ base, base = X.heap.size := ⟨_, rfl⟩
  rw [← hbase] at HC0
  clear ho hbase hc1 hcX
  go_loopw [4, 5] (fun v _ wr => ∃ (k : Nat) (G H : Nat → Nat) (u : Value), v = .int .i64 k ∧ k ≤ l'.length ∧ Hid (CSt W base o (w.heap.size + 1) gb capb l l' k G H u wr)) (fun v _ _ => l'.length - (intOf v).toNat)
  case atStart => exact ⟨0, _, _, _, rfl, Nat.zero_le _, HC0⟩
  case round =>
    obtain ⟨k, G, H, u, rfl, hk, st⟩ := hrel
    have hcw := hc ⟨_, st.out.bel⟩
    simp only at hcw
    by_cases hlt : k < l'.length
    · obtain ⟨Y, hYe⟩ : ∃ Y, Y = wr := ⟨_, rfl⟩
      subst hYe
      have hx : l'[k]? = some l'[k] := List.getElem?_eq_getElem hlt
      have he := RopeD.elem hx hrb HRC.out ⟨_, st.out.bel⟩
      simp only at he
      obtain ⟨hh2, hh10⟩ := HL10.out _ (List.getElem_mem hlt)
      have hsl := HEA.out _ (List.getElem_mem hlt)
      have hfn := fnOf_get hx
      obtain ⟨r, hr⟩ : ∃ r, r = l'[k] := ⟨_, rfl⟩
      rw [← hr] at he hh2 hh10 hsl hfn
      clear hr hx
      obtain ⟨rn, ⟨A2, cap2, l2⟩, rh⟩ := r
      simp only at he hh2 hh10
      have hsl : SlAt W W.heap.size 4 HoldD.cells ⟨A2, cap2, l2⟩ := hsl
      obtain ⟨b2, o2, hA2, hb2, hc2⟩ := hsl.2.2 (show 0 < l2.length by omega)
      simp only at hA2
      subst hA2
      have hm2 := hsl.2.1
      unfold maxLen at hm2
      have hlc2 := hsl.1
      simp only at hm2 hlc2
      obtain ⟨V, hV, hVs, hVb, hVh⟩ := boxed Y (.cells #[.string rn, .slice (some ⟨b2, o2, none⟩) l2.length cap2, .bool rh] 40)
      obtain ⟨V2, hV2, hVs2, hVb2, hVh2⟩ := boxed V (.cells #[] 47)
      rw [hVs] at hVs2 hVh2
      have hbV2 : Below Y.heap.size Y V2 := hVb.trans (hVb2.mono (by omega))
      have hVm : V2.heap[Y.heap.size]? = some (.cells #[.string rn, .slice (some ⟨b2, o2, none⟩) l2.length cap2, .bool rh] 40 (0, 0)) := (hVb2.block _ (by omega)).trans hVh
      have hbx := RopeD.boxed (r := ⟨rn, ⟨some ⟨b2, o2, none⟩, cap2, l2⟩, rh⟩) hVm (show Y.heap.size < V2.heap.size by omega) (After.refl _ _)
      simp only [After.refl] at hbx
      have hWV2 : Below W.heap.size W V2 := st.out.bel.trans (hbV2.mono st.out.bel.size)
      have hnews := slAt_news (cells := HoldD.cells) (size := 4) (fun _ => rfl) (fun i x hx j u hu => (hWV2.cell (p := ⟨b2, o2 + (i * 4 + j), none⟩) hb2).trans (hc2 i x hx j u hu))
      have HV := hide (show V2 = (Y.alloc (.cells #[.string rn, .slice (some ⟨b2, o2, none⟩) l2.length cap2, .bool rh] 40)).alloc (.cells #[] 47) by rw [hV2, hV])
      rw [hV2, hV] at hbx
      go_wp2_with (at_builtin; refine Hid.out ?_)
      rw [← HV.out]
      refine Lib.hid ?_
      refine wpList_append_own _ rfl _ _ 38 rfl (Y.heap.size + 1) 47 i1 _ 4 40 Tryd.underlying38 HJ.out.1 HJ.out.2.1 HJ.out.2.2.1 HJ.out.2.2.2 rfl (by decide) _ _ _ rfl (own_empty hVh2) ⟨b2, o2, none⟩ l2.length cap2 (l2.flatMap HoldD.cells) rfl (flat_len (cells := HoldD.cells) (size := 4) (fun _ => rfl) l2) hnews (fun u hu => by
        obtain ⟨x, _, hx⟩ := List.mem_flatMap.1 hu
        simp [HoldD.cells] at hx; rcases hx with rfl | rfl | rfl | rfl <;> rfl) (by unfold maxLen; omega) (by omega) (by omega) ?_
      intro v2 w2 hown hgr _
      have hgr : V2.grownBy w2 (some (Y.heap.size + 1)) := hgr
      rw [Nat.zero_add, List.nil_append] at hown
      obtain ⟨g, cap3, rfl, hg, hcc1, hcc2, hrow⟩ := own_rowFn (cells := HoldD.cells) (fun _ => rfl) hown (fun h => by rw [h] at hh2; simp at hh2)
      have hroom2 := own_room hown
      have hb2' : Below Y.heap.size V2 w2 := Below.byMap hgr (Nat.le_succ _) (by omega)
      have hbW2 : Below Y.heap.size Y w2 := hbV2.trans hb2'
      have hmw : w2.heap[Y.heap.size]? = some (.cells #[.string rn, .slice (some ⟨b2, o2, none⟩) l2.length cap2, .bool rh] 40 (0, 0)) := (hgr.block _ (by omega) (by simp)).trans hVm
      have hlo := st.out.lo
      have hog := (hbW2.block o (by omega)).trans st.out.out
      have hoc := (two_cells hog).2
      have hbx2 := RopeD.boxed (r := ⟨rn, ⟨some ⟨b2, o2, none⟩, cap2, l2⟩, rh⟩) hmw (Array.getElem?_eq_some_iff.1 hmw).1 (After.refl _ _)
      simp only [After.refl] at hbx2
      have hfz2 := block_unfrozen hmw 1
      have hom : ¬ o = Y.heap.size := by omega
      have hmo : ¬ Y.heap.size = o := by omega
      have hZm := fun v => (show (w2.setCell ⟨Y.heap.size, 1, none⟩ v).heap[Y.heap.size]? = some (.cells #[.string rn, v, .bool rh] 40 (0, 0)) by rw [block_set hmw]; rfl)
      have hZ1 := fun v => (show (w2.setCell ⟨Y.heap.size, 1, none⟩ v).cell? ⟨Y.heap.size, 1, none⟩ = some v by rw [Lib.cell_of_heap (hZm v)]; rfl)
      obtain ⟨Z, hZ⟩ : ∃ Z, Z = w2.setCell ⟨Y.heap.size, 1, none⟩ (.slice (some ⟨g, 0, none⟩) l2.length cap3) := ⟨_, rfl⟩
      have hYZ : Below Y.heap.size Y Z := by rw [hZ]; exact hbW2.setCell (p := ⟨Y.heap.size, 1, none⟩) (Nat.le_refl _) _
      have HYZ := hide hYZ
      have HROWZ := hide (show RowFn Z g 47 4 (fnOf l' k).holds.l.length HoldD.cells (fnOf (fnOf l' k).holds.l) by
        rw [hfn, hZ]; exact hrow.of_block (RowKit.Below.heap_setCell _ _ _ _ (show g ≠ Y.heap.size by omega)))
      have HRMZ := hide (show Room Z g cap3 by rw [hZ]; exact hroom2.of_block (RowKit.Below.heap_setCell _ _ _ _ (show g ≠ Y.heap.size by omega)))
      have HSTZ := hide (st.out.more hYZ)
      have HZ := hide hZ
      have HCAP := hide (show (fnOf l' k).holds.l.length ≤ cap3 ∧ cap3 ≤ maxLen by rw [hfn]; exact ⟨hcc1, hcc2⟩)
      have hZs := HSTZ.out.lo
      clear hroom2 hown hgr hrow hnews hb2' hbV2 hVm hVh2 hYZ hZ hbx hWV2 he hcw
      have hZsz : Z.heap.size = w2.heap.size := by rw [HZ.out]; simp [World.setCell]
      go_wp2_with (at_builtin; refine Hid.out ?_)
      rw [← HZ.out]
      refine Lib.hid ?_
      refine wpList_append_own _ rfl _ _ 23 rfl base 40 i2 _ 3 48 Tryd.underlying23 HK.out.1 HK.out.2.1 HK.out.2.2.1 HK.out.2.2.2 rfl (by decide) _ _ _ rfl (HSTZ.out.own.alloc _) ⟨w2.heap.size, 0, none⟩ 1 1 (RopeD.cells ⟨rn, ⟨some ⟨g, 0, none⟩, cap3, l2⟩, rh⟩) rfl rfl (by rw [← hZsz]; exact World.news_of_block (heap_alloc_new Z _)) (fun u hu => by simp [RopeD.cells] at hu; rcases hu with rfl | rfl | rfl <;> rfl) (by unfold maxLen; omega) (by omega) (by simp; omega) ?_
      intro v3 w3 hown3 hgr3 _
      obtain ⟨g5, c5, rfl⟩ : ∃ g5 c5, v3 = .slice (some ⟨g5, 0, none⟩) (k + 1) c5 := by
        rcases hown3.2 with ⟨_, h0⟩ | ⟨g5, c5, cur, hv, _⟩
        · omega
        · exact ⟨g5, c5, hv⟩
      have hal := (Below.refl Z.heap.size Z).alloc (Nat.le_refl _) (.cells #[.string rn, .slice (some ⟨g, 0, none⟩) l2.length cap3, .bool rh] 40)
      have hgr3 : (Z.alloc (.cells #[.string rn, .slice (some ⟨g, 0, none⟩) l2.length cap3, .bool rh] 40)).grownBy w3 u.ownBlock := hgr3
      have hb3 := Below.grown (Below.refl base _) hgr3 (by simp; omega) (own_owner HSTZ.out.own)
      have hout3 := (hb3.block o (by omega)).trans ((hal.block o (by omega)).trans HSTZ.out.out)
      have hoc3 := (two_cells hout3).2
      have hof3 := block_unfrozen hout3 1
      have HN := hide (CSt.append st.out HYZ.out (show Y.heap.size ≤ g by omega) HROWZ.out HCAP.out HRMZ.out hal (by rw [hfn]; exact hown3) hgr3)
      clear hown3 hgr3 hb3 hout3 hal hZm hZ1 hbx2 hfz2 hoc hog hmw
      go_wp2
      exact ⟨⟨k + 1, _, _, _, by go_num, by omega, HN⟩, by simp [intOf]; omega⟩
    · have hkl : k = l'.length := by omega
      subst hkl
      have hlo := st.out.lo
      obtain ⟨gr, capr, hue, hgr, hcr1, hcr2, hrows⟩ := own_rowFn (cells := RopeD.cells) (l := ropesC G H l' l'.length) (fun _ => rfl) (by rw [ropesC_length]; exact st.out.own) (fun h => by have := congrArg List.length h; rw [ropesC_length, List.length_nil] at this; omega)
      rw [ropesC_length] at hue hcr1 hrows
      subst hue
      obtain ⟨ho0, ho1⟩ := two_cells st.out.out
      have hfr := fun i => block_unfrozen st.out.res i
      obtain ⟨hr0, hr1⟩ := two_cells st.out.res
      have hR := fun z z' => (two_cells (two_set (c := z) (d := z') st.out.res)).2
      have hR1 := fun z => (show (wr.setCell ⟨w.heap.size + 1, 0, none⟩ z).cell? ⟨w.heap.size + 1, 0, none⟩ = some z by rw [Lib.cell_of_heap (block_set (i := 0) st.out.res z)]; rfl)
      go_wp2
      try simp only [Exit.inBlock, Exit.then]
      refine bodyPost_ret (by simp [results, Tryd.results17, go_sem, hR, hR1]; try rfl) rfl ?_
      have hset : ∀ (j : Nat) (z z' : Value), j ≠ w.heap.size + 1 → ((wr.setCell ⟨w.heap.size + 1, 0, none⟩ z).setCell ⟨w.heap.size + 1, 1, none⟩ z').heap[j]? = wr.heap[j]? := fun j z z' hj => by
        rw [RowKit.Below.heap_setCell _ _ _ _ hj, RowKit.Below.heap_setCell _ _ _ _ hj]
      refine ⟨⟨⟨some ⟨gb, 0, none⟩, capb, l⟩, ⟨some ⟨gr, 0, none⟩, capr, ropesC G H l' l'.length⟩⟩, by simp only [ropesC_length], ⟨rfl, ⟨gb, rfl, by omega, st.out.blk.of_block (hset _ _ _ (by omega))⟩, HCB.out, ⟨gr, G, H, rfl, by omega, rfl, hrows.of_block (hset _ _ _ (by omega)), fun p hp => ?_, st.out.inc, fun p hp => (st.out.room p hp).of_block (hset _ _ _ (by have := (st.out.holds p hp).2.1; omega))⟩, hcr1, hcr2⟩, ?_⟩
      · obtain ⟨a1, a2, a3⟩ := st.out.holds p hp
        exact ⟨a1.of_block (hset _ _ _ (by omega)), by omega, a3⟩
      · have hbel := HWb.out.trans (st.out.bel.mono (by omega))
        exact (hbel.setCell (p := ⟨w.heap.size + 1, 0, none⟩) (by simp only; omega) _).setCell (p := ⟨w.heap.size + 1, 1, none⟩) (by simp only; omega) _
end Go.Proofs.YtgamhdbcejkllaaDoor
