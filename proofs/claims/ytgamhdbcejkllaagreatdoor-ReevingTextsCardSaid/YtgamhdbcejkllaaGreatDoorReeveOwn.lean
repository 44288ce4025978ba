/- Ropes and systems that are being read: how they lie in memory while their rows grow. -/
import Derived.Test.YtgamhdbcejkllaaGreatDoorReeveCopy
import Derived.Test.YtgamhdbcejkllaaGreatDoorReevePlain
import Derived.Maps.AppendAt
namespace Go.Proofs.YtgamhdbcejkllaaGreatDoor
open Go.RowKit

def strCells (b : ByteArray) : List Value := [.string b]
theorem strElem {W : World} {B b off : Nat} {l : List ByteArray} {k : Nat} {c : ByteArray} (hs : l[k]? = some c) (hb : b < B) (hc : ∀ i x, l[i]? = some x → ∀ j u, (strCells x)[j]? = some u → W.cell? ⟨b, off + (i * 1 + j), none⟩ = some u) (x : After B W) :
    x.val.cell? ⟨b, off + k, none⟩ = some (.string c) := by
  have h := hc k c hs 0 _ rfl
  exact x.cell (by simpa using h) hb
theorem rowFn_slAt {α : Type} [Inhabited α] {w : World} {g : Nat} {t : TypeId} {size cap B : Nat} {cells : α → List Value} {l : List α} (h : RowFn w g t size l.length cells (fnOf l)) (hcap : l.length ≤ cap) (hc : cap ≤ maxLen) (hB : g < B) : SlAt w B size cells ⟨some ⟨g, 0, none⟩, cap, l⟩ :=
  ⟨hcap, hc, fun _ => ⟨g, 0, rfl, hB, fun i x hx j u hu => by
    rw [Nat.zero_add]
    exact h.cell (List.getElem?_eq_some_iff.1 hx).1 (by rw [fnOf_get hx]; exact hu)⟩⟩
theorem three_cells {z : World} {g : Nat} {a b c : Value} {t : TypeId} {fr : Nat × Nat} (h : z.heap[g]? = some (.cells #[a, b, c] t fr)) : z.cell? ⟨g, 0, none⟩ = some a ∧ z.cell? ⟨g, 1, none⟩ = some b ∧ z.cell? ⟨g, 2, none⟩ = some c :=
  ⟨(Joins.cell_of_block h 0).trans rfl, (Joins.cell_of_block h 1).trans rfl, (Joins.cell_of_block h 2).trans rfl⟩
/-- all that a store of three cells, and the load behind it, ask of the block -/
theorem three_all {z : World} {g : Nat} {a b c : Value} {t : TypeId} (h : z.heap[g]? = some (.cells #[a, b, c] t (0, 0))) (p q r : Value) :
    (z.cell? ⟨g, 0, none⟩ = some a ∧ z.cell? ⟨g, 1, none⟩ = some b ∧ z.cell? ⟨g, 2, none⟩ = some c) ∧ (∀ i, z.frozen? ⟨g, i, none⟩ = false) ∧ (∀ i, (z.setCell ⟨g, 0, none⟩ p).frozen? ⟨g, i, none⟩ = false) ∧
    (∀ i, ((z.setCell ⟨g, 0, none⟩ p).setCell ⟨g, 1, none⟩ q).frozen? ⟨g, i, none⟩ = false) ∧
    (((z.setCell ⟨g, 0, none⟩ p).setCell ⟨g, 1, none⟩ q).setCell ⟨g, 2, none⟩ r).cell? ⟨g, 0, none⟩ = some p ∧ (((z.setCell ⟨g, 0, none⟩ p).setCell ⟨g, 1, none⟩ q).setCell ⟨g, 2, none⟩ r).cell? ⟨g, 1, none⟩ = some q ∧ (((z.setCell ⟨g, 0, none⟩ p).setCell ⟨g, 1, none⟩ q).setCell ⟨g, 2, none⟩ r).cell? ⟨g, 2, none⟩ = some r := by
  have h1 := block_set h (i := 0) p
  have h2 := block_set h1 (i := 1) q
  have h3 := block_set h2 (i := 2) r
  exact ⟨three_cells h, block_unfrozen h, block_unfrozen h1, block_unfrozen h2, three_cells h3⟩
theorem own_type {w : World} {base : Nat} {e : TypeId} {size : Nat} {v : Value} {n : Nat} {xs : List Value} (h : w.ownsRow base e size v n xs) : ∀ g, v.ownBlock = some g → ∃ cur, w.heap[g]? = some (.cells cur e (0, 0)) := by
  intro g hg
  rcases h.2 with ⟨rfl, _⟩ | ⟨g', cap, cur, rfl, _, hh, _⟩
  · simp [Value.ownBlock] at hg
  · simp [Value.ownBlock] at hg; subst hg; exact ⟨cur, hh⟩
/-- a row that grows leaves the blocks of other types alone -/
theorem keep_type {u y : World} {base : Nat} {e : TypeId} {size : Nat} {v : Value} {n : Nat} {xs : List Value} (h : u.ownsRow base e size v n xs) (hgr : u.grownBy y v.ownBlock) {g : Nat} {cur : Array Value} {t : TypeId} {fr : Nat × Nat} (hg : u.heap[g]? = some (.cells cur t fr)) (hne : t ≠ e) : y.heap[g]? = u.heap[g]? := by
  refine hgr.block g (Array.getElem?_eq_some_iff.1 hg).1 fun e2 => ?_
  obtain ⟨c2, h2⟩ := own_type h g e2.symm
  rw [hg] at h2
  injection h2 with h2
  injection h2 with _ h3
  exact hne h3
theorem own_slice {w : World} {base : Nat} {e : TypeId} {size : Nat} {v : Value} {n : Nat} {xs : List Value} (h : w.ownsRow base e size v n xs) : ∃ A cap, v = .slice A n cap ∧ n ≤ cap ∧ cap ≤ maxLen ∧ (0 < n → ∃ g, A = some ⟨g, 0, none⟩) := by
  rcases h.2 with ⟨rfl, h0⟩ | ⟨g, cap, cur, hv, _, _, h1, h2, _⟩
  · subst h0
    exact ⟨none, 0, rfl, Nat.le_refl _, by simp [maxLen], fun h => absurd h (by omega)⟩
  · exact ⟨_, cap, hv, h1, h2, fun _ => ⟨g, rfl⟩⟩

/-! ### a rope whose holds are read -/
structure RdSt (W : World) (rb : Nat) (nm : ByteArray) (hu : Bool) (v : Value) (l : List HoldD) (x : World) : Prop where
  bel : Below W.heap.size W x
  lo : W.heap.size ≤ rb
  own : x.ownsRow W.heap.size 57 4 v l.length (l.flatMap HoldD.cells)
  box : x.heap[rb]? = some (.cells #[.string nm, v, .bool hu] 53 (0, 0))
section
variable {W x y u : World} {rb : Nat} {nm : ByteArray} {hu : Bool} {v v' : Value} {l : List HoldD}
theorem RdSt.lt (h : RdSt W rb nm hu v l x) : rb < x.heap.size := (Array.getElem?_eq_some_iff.1 h.box).1
theorem RdSt.more (h : RdSt W rb nm hu v l x) (hb : Below x.heap.size x y) : RdSt W rb nm hu v l y := ⟨h.bel.trans (hb.mono h.bel.size), h.lo, own_below h.own hb, (hb.block rb h.lt).trans h.box⟩
theorem RdSt.append {hd : HoldD} (h : RdSt W rb nm hu v l x) (hb : Below x.heap.size x u) (hown : y.ownsRow W.heap.size 57 4 v' (l.length + 1) (l.flatMap HoldD.cells ++ hd.cells)) (hgr : u.grownBy y v.ownBlock) :
    y.heap[rb]? = some (.cells #[.string nm, v, .bool hu] 53 (0, 0)) ∧ RdSt W rb nm hu v' (l ++ [hd]) (y.setCell ⟨rb, 1, none⟩ v') := by
  have h2 := h.more hb
  have hbx : y.heap[rb]? = some (.cells #[.string nm, v, .bool hu] 53 (0, 0)) := (keep_type h2.own hgr h2.box (by decide)).trans h2.box
  refine ⟨hbx, (Below.grown h2.bel hgr h2.bel.size (own_owner h2.own)).setCell (p := ⟨rb, 1, none⟩) h.lo _, h.lo, ?_, ?_⟩
  · rw [List.length_append, List.flatMap_append]
    refine own_block (by simpa using hown) fun g hg => RowKit.Below.heap_setCell _ _ _ _ fun e => ?_
    obtain ⟨cur, hc⟩ := own_type hown g hg
    simp only at e
    subst e
    rw [hbx] at hc
    injection hc with hc
    injection hc with _ hc
    exact absurd hc (by decide)
  · rw [block_set hbx]; rfl
end
/-- where the holds of a rope lie that has been read -/
def HoldsIn (base : Nat) (r : RopeD) (x : World) : Prop := ∃ g, r.holds.A = some ⟨g, 0, none⟩ ∧ base ≤ g ∧ RowFn x g 57 4 r.holds.l.length HoldD.cells (fnOf r.holds.l) ∧ r.holds.l.length ≤ r.holds.cap ∧ r.holds.cap ≤ maxLen
theorem HoldsIn.of {base : Nat} {r : RopeD} {x y : World} (h : HoldsIn base r x) (hb : ∀ (g : Nat) (cur : Array Value), x.heap[g]? = some (Obj.cells cur 57 (0, 0)) → y.heap[g]? = x.heap[g]?) : HoldsIn base r y := by
  obtain ⟨g, h1, h2, h3, h4⟩ := h
  obtain ⟨cur, hc, _⟩ := id h3
  exact ⟨g, h1, h2, h3.of_block (hb g cur hc), h4⟩
theorem HoldsIn.more {base : Nat} {r : RopeD} {x y : World} (h : HoldsIn base r x) (hb : Below x.heap.size x y) : HoldsIn base r y := h.of fun g _ hc => hb.block g (Array.getElem?_eq_some_iff.1 hc).1
theorem RdSt.holdsIn {W x : World} {rb : Nat} {nm : ByteArray} {hu : Bool} {v : Value} {l : List HoldD} (h : RdSt W rb nm hu v l x) (hn : l ≠ []) : ∃ A cap, v = .slice A l.length cap ∧ HoldsIn W.heap.size ⟨nm, ⟨A, cap, l⟩, hu⟩ x := by
  obtain ⟨g, cap, hv, hg, h1, h2, h3⟩ := own_rowFn (cells := HoldD.cells) (fun _ => rfl) h.own hn
  exact ⟨_, cap, hv, g, rfl, hg, h3, h1, h2⟩

/-! ### a system whose lines are read -/
structure SysSt (W : World) (s : SysD) (x : World) : Prop where
  bel : Below W.heap.size W x
  blk : x.ownsRow W.heap.size 50 2 (.slice s.blocks.A s.blocks.l.length s.blocks.cap) s.blocks.l.length (s.blocks.l.flatMap BlockD.cells)
  rop : x.ownsRow W.heap.size 53 3 (.slice s.ropes.A s.ropes.l.length s.ropes.cap) s.ropes.l.length (s.ropes.l.flatMap RopeD.cells)
  holds : ∀ r ∈ s.ropes.l, r.holds.l = [] ∧ r.holds.A = none ∧ r.holds.cap = 0 ∨ HoldsIn W.heap.size r x
  ok : s.ok
section
variable {W x y u : World} {s : SysD} {v' : Value}
theorem SysSt.start (hb : Below W.heap.size W x) : SysSt W ⟨⟨none, 0, []⟩, ⟨none, 0, []⟩⟩ x := ⟨hb, own_nil _ _ _ _, own_nil _ _ _ _, fun r hr => absurd hr (by simp), ⟨fun x hx => absurd hx (by simp), fun x hx => absurd hx (by simp)⟩⟩
theorem SysSt.of (h : SysSt W s x) (hb : Below W.heap.size W y) (hk : ∀ (g : Nat) (cur : Array Value) (t : TypeId), W.heap.size ≤ g → x.heap[g]? = some (Obj.cells cur t (0, 0)) → t ≠ 25 → y.heap[g]? = x.heap[g]?) : SysSt W s y := by
  refine ⟨hb, own_block h.blk fun g hg => ?_, own_block h.rop fun g hg => ?_, fun r hr => (h.holds r hr).imp id fun h3 => ?_, h.ok⟩
  · obtain ⟨c, hc⟩ := own_type h.blk g hg
    exact hk g c _ (own_owner h.blk g hg) hc (by decide)
  · obtain ⟨c, hc⟩ := own_type h.rop g hg
    exact hk g c _ (own_owner h.rop g hg) hc (by decide)
  · obtain ⟨g, h1, h2, h4, h5⟩ := h3
    obtain ⟨cur, hc, _⟩ := id h4
    exact ⟨g, h1, h2, h4.of_block (hk g cur _ h2 hc (by decide)), h5⟩
theorem SysSt.more (h : SysSt W s x) (hb : Below x.heap.size x y) : SysSt W s y := h.of (h.bel.trans (hb.mono h.bel.size)) fun g _ _ _ hg _ => hb.block g (Array.getElem?_eq_some_iff.1 hg).1
/-- a store into a struct of another kind -/
theorem SysSt.set (h : SysSt W s x) {o i : Nat} {v : Value} {cs : Array Value} (ho : x.heap[o]? = some (.cells cs 25 (0, 0))) (hlo : W.heap.size ≤ o) : SysSt W s (x.setCell ⟨o, i, none⟩ v) := by
  refine h.of (h.bel.setCell (p := ⟨o, i, none⟩) hlo _) fun g cur t _ hg ht => RowKit.Below.heap_setCell _ _ _ _ fun e => ?_
  simp only at e
  subst e
  rw [ho] at hg
  injection hg with hg
  injection hg with _ hg
  exact ht hg.symm
theorem SysSt.addBlock {b : BlockD} (h : SysSt W s x) (hb : Below x.heap.size x u) (hbo : b.ok) (hown : y.ownsRow W.heap.size 50 2 v' (s.blocks.l.length + 1) (s.blocks.l.flatMap BlockD.cells ++ b.cells)) (hgr : u.grownBy y (Value.slice s.blocks.A s.blocks.l.length s.blocks.cap).ownBlock) :
    ∃ A cap, v' = .slice A (s.blocks.l.length + 1) cap ∧ SysSt W ⟨⟨A, cap, s.blocks.l ++ [b]⟩, s.ropes⟩ y := by
  have h2 := h.more hb
  obtain ⟨A, cap, hv, h3, h4, _⟩ := own_slice hown
  refine ⟨A, cap, hv, Below.grown h2.bel hgr h2.bel.size (own_owner h2.blk), ?_, ?_, fun r hr => (h2.holds r hr).imp id fun h5 => ?_, ⟨fun z hz => ?_, h.ok.ropes⟩⟩
  · simp only [List.length_append, List.flatMap_append, List.length_singleton]
    rw [← hv]
    simpa using hown
  · exact own_block h2.rop fun g hg => by
      obtain ⟨c, hc⟩ := own_type h2.rop g hg
      exact keep_type h2.blk hgr hc (by decide)
  · exact h5.of fun g cur hc => keep_type h2.blk hgr hc (by decide)
  · rcases List.mem_append.1 hz with hz | hz
    · exact h.ok.blocks z hz
    · rw [List.mem_singleton] at hz; subst hz; exact hbo
theorem SysSt.addRope {r : RopeD} (h : SysSt W s x) (hb : Below x.heap.size x u) (hro : r.ok) (hr : r.holds.l = [] ∧ r.holds.A = none ∧ r.holds.cap = 0 ∨ HoldsIn W.heap.size r u) (hown : y.ownsRow W.heap.size 53 3 v' (s.ropes.l.length + 1) (s.ropes.l.flatMap RopeD.cells ++ r.cells)) (hgr : u.grownBy y (Value.slice s.ropes.A s.ropes.l.length s.ropes.cap).ownBlock) :
    ∃ A cap, v' = .slice A (s.ropes.l.length + 1) cap ∧ SysSt W ⟨s.blocks, ⟨A, cap, s.ropes.l ++ [r]⟩⟩ y := by
  have h2 := h.more hb
  obtain ⟨A, cap, hv, h3, h4, _⟩ := own_slice hown
  refine ⟨A, cap, hv, Below.grown h2.bel hgr h2.bel.size (own_owner h2.rop), ?_, ?_, fun z hz => ?_, ⟨h.ok.blocks, fun z hz => ?_⟩⟩
  · exact own_block h2.blk fun g hg => by
      obtain ⟨c, hc⟩ := own_type h2.blk g hg
      exact keep_type h2.rop hgr hc (by decide)
  · simp only [List.length_append, List.flatMap_append, List.length_singleton]
    rw [← hv]
    simpa using hown
  · rcases List.mem_append.1 hz with hz | hz
    · exact (h2.holds z hz).imp id fun h5 => h5.of fun g cur hc => keep_type h2.rop hgr hc (by decide)
    · rw [List.mem_singleton] at hz; subst hz
      exact hr.imp id fun h5 => h5.of fun g cur hc => keep_type h2.rop hgr hc (by decide)
  · rcases List.mem_append.1 hz with hz | hz
    · exact h.ok.ropes z hz
    · rw [List.mem_singleton] at hz; subst hz; exact hro
theorem own_slAt {α : Type} [Inhabited α] {w : World} {base : Nat} {e : TypeId} {size cap : Nat} {A : Option Addr} {cells : α → List Value} (hs : ∀ x, (cells x).length = size) {l : List α} (h : w.ownsRow base e size (.slice A l.length cap) l.length (l.flatMap cells)) : SlAt w w.heap.size size cells ⟨A, cap, l⟩ := by
  obtain ⟨A', cap', hv, h1, h2, _⟩ := own_slice h
  injection hv with e1 _ e3
  subst e1 e3
  by_cases hn : l = []
  · subst hn; exact ⟨h1, h2, fun h => absurd h (by simp)⟩
  · obtain ⟨g, cap2, hv, _, h3, h4, h5⟩ := own_rowFn hs h hn
    injection hv with e1 _ e3
    subst e1 e3
    exact rowFn_slAt h5 h3 h4 h5.lt
theorem SysSt.at_ (h : SysSt W s x) : SysD.at_ x x.heap.size s := by
  refine ⟨own_slAt (cells := BlockD.cells) (fun _ => rfl) h.blk, own_slAt (cells := RopeD.cells) (fun _ => rfl) h.rop, fun r hr => ?_⟩
  rcases h.holds r hr with ⟨h1, h2, h3⟩ | ⟨g, h1, h2, h3, h4, h5⟩
  · obtain ⟨nm, ⟨A, cap, l⟩, hu⟩ := r
    simp only at h1 h2 h3
    subst h1 h2 h3
    exact ⟨Nat.le_refl _, by simp [maxLen], fun h => absurd h (by simp)⟩
  · obtain ⟨nm, ⟨A, cap, l⟩, hu⟩ := r
    simp only at h1 h2 h3 h4 h5
    subst h1
    exact rowFn_slAt h3 h4 h5 h3.lt
end
theorem infoBlk : (Tryz.prog.info? 50).map (fun i => (i.zero, i.size, i.bytes)) = some (some (.agg #[.string ⟨#[]⟩, .int .i64 0]), 2, 24) := by kernel_rfl
theorem infoHld : (Tryz.prog.info? 57).map (fun i => (i.zero, i.size, i.bytes)) = some (some (.agg #[.string ⟨#[]⟩, .int .i64 0, .int .i64 0, .int .i64 0]), 4, 40) := by kernel_rfl
theorem infoRpe : (Tryz.prog.info? 53).map (fun i => (i.zero, i.size, i.bytes)) = some (some (.agg #[.string ⟨#[]⟩, .slice none 0 0, .bool false]), 3, 48) := by kernel_rfl
theorem infoStr : (Tryz.prog.info? 9).map (fun i => (i.zero, i.size, i.bytes)) = some (some (.string ⟨#[]⟩), 1, 16) := by kernel_rfl
end Go.Proofs.YtgamhdbcejkllaaGreatDoor
