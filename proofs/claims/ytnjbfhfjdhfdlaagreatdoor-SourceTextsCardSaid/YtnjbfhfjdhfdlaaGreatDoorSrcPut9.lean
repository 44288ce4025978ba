/- The reader's method last. The numbers of a new struct, read. How the rows in the reader's rows turn. How the rows of moves in the reader's rows turn. How the reader's four rows grow. A new set among the reader's rows. The numbers to the end of a line, one by one: in plain Lean. What the reader's method set holds while it reads the lines. The nine numbers of a set, put into its cells. -/
import Derived.Test.YtnjbfhfjdhfdlaaGreatDoorSrcMem
import Derived.BigQuiet
import Derived.Test.YtnjbfhfjdhfdlaaGreatDoorSrcToks
namespace Go.Proofs.YtnjbfhfjdhfdlaaGreatDoor
open Go.RowKit

theorem own_cases {w : World} {base : Nat} {e : TypeId} {size n : Nat} {A : Option Addr} {cap : Nat} {xs : List Value} (h : w.ownsRow base e size (.slice A n cap) n xs) : (A = none ∧ cap = 0 ∧ n = 0) ∨ ∃ g cur, A = some ⟨g, 0, none⟩ ∧ base ≤ g ∧ w.heap[g]? = some (.cells cur e (0, 0)) ∧ n ≤ cap ∧ cap ≤ maxLen ∧ cur.size = cap * size ∧ cur.toList.take (n * size) = xs := by
  rcases h.2 with ⟨h1, h2⟩ | ⟨g, c, cur, h1, h2, h3, h4, h5, h6, h7⟩
  · injection h1 with a b c
    exact Or.inl ⟨a, c, h2⟩
  · injection h1 with a b c'
    subst a
    subst c'
    exact Or.inr ⟨g, cur, rfl, h2, h3, h4, h5, h6, h7⟩
theorem Rd0.cellr {rb : Nat} {tv : Value} {L : List TokD} {n : Nat} {rest : List Value} {x : World} (h : Rd0 rb tv L n rest x) (j : Nat) : x.cell? ⟨rb, j + 2, none⟩ = rest[j]? := (Joins.cell_of_block h.box (j + 2)).trans (by simp)
/-- the sets' row of a reader -/
theorem RIn.sets {rb n : Nat} {tv : Value} {L : List TokD} {nm : ByteArray} {ht : Int} {S : Sl SetD} {R : Sl RoofD} {C : Sl CueD} {A : Sl (ByteArray × ByteArray)} {x : World} (h : RIn rb tv L n nm ht S R C A x) : x.ownsRow (rb + 1) 63 13 S.val S.l.length (S.l.flatMap SetD.cells) := h.rows.all ⟨63, 13, S.val, S.l.length, S.l.flatMap SetD.cells⟩ (by unfold memRows; exact List.mem_cons_self)
set_option maxRecDepth 100000 in
set_option maxHeartbeats 8000000 in
theorem last_any {rb n : Nat} {tv : Value} {L : List TokD} {nm : ByteArray} {ht : Int} {S : Sl SetD} {R : Sl RoofD} {C : Sl CueD} {A : Sl (ByteArray × ByteArray)} {u : World} (h : RIn rb tv L (n + 1) nm ht S R C A u) {t : TokD} (htk : L[n]? = some t) (hbig : L.length ≤ 1000000) :
    Calls Tryz.prog 143 #[.pointer (some ⟨rb, 0, none⟩)] u fun e w' =>
      (S.l = [] → u.grownBy w' (some rb) ∧ e = .panicked [{ v := .iface 131 (.agg #[.int .i64 t.line, .int .i64 t.col]), recovered := false }]) ∧
      (∀ m, S.l.length = m + 1 → ∃ g, S.A = some ⟨g, 0, none⟩ ∧ e = .returned (.pointer (some ⟨g, m * 13, none⟩)) ∧ ∃ z : After u.heap.size u, w' = z.val) := by
  have hn1 := (List.getElem?_eq_some_iff.1 htk).1
  have HH := hide h
  have c4 : ∀ z : After u.heap.size u, z.val.cell? ⟨rb, 4, none⟩ = some (.slice S.A S.l.length S.cap) := fun z => ((h.rd.more z.below).cellr 2).trans rfl
  have c1 := fun z : After u.heap.size u => (h.rd.more z.below).cell1
  have f1 := fun z : After u.heap.size u => (h.rd.more z.below).free 1
  have c4u : u.cell? ⟨rb, 4, none⟩ = some (.slice S.A S.l.length S.cap) := c4 (After.refl _ _)
  have c1u := h.rd.cell1
  have f1u := h.rd.free 1
  have hrb := h.rd.lt
  have hown := own_cases h.sets
  have hnn : ((n + 1 : Nat) : Int) - 1 = (n : Int) := by omega
  have hn2 : (n : Int) ≤ 1000000 := by omega
  have HT := hide htk
  clear htk h
  obtain ⟨k, hk⟩ : ∃ k, S.l.length = k := ⟨_, rfl⟩
  cases k with
  | zero =>
    have hs0 : S.l = [] := List.eq_nil_of_length_eq_zero hk
    rw [hk] at c4u
    clear c4 c1 f1
    clear hown
    have hrd := HH.out.rd.setAt n
    have KF := hide (fail_any hrd HT.out)
    have HG := hide (grown_put (w := u) (World.grownBy.refl u (some rb)) (i := 1) (v := .int .i64 (n : Int)))
    clear hrd
    go_enter Tryz.func143, Tryz.ntmps143
    go_wp2_with fail
    refine KF.out.mono ?_
    rintro e w1 ⟨rfl, hb⟩
    exact ⟨rfl, fun _ => ⟨grown_below HG.out hb, rfl⟩, fun m hm => by omega⟩
  | succ m =>
    obtain ⟨g, cur, hA, hgb, hgh, hlc, hcm, hcs, htk2⟩ : ∃ g cur, S.A = some ⟨g, 0, none⟩ ∧ rb + 1 ≤ g ∧ u.heap[g]? = some (.cells cur 63 (0, 0)) ∧ S.l.length ≤ S.cap ∧ S.cap ≤ maxLen ∧ cur.size = S.cap * 13 ∧ cur.toList.take (S.l.length * 13) = S.l.flatMap SetD.cells := by
      rcases hown with ⟨_, _, h0⟩ | h1
      · omega
      · exact h1
    clear hown
    unfold maxLen at hcm
    rw [hk, hA] at c4
    rw [hk, hA] at c4u
    have hm1 : ((m + 1 : Nat) : Int) - 1 = (m : Int) := by omega
    have hm0 : (0 : Int) ≤ (m : Int) := by omega
    have hm2 : (m : Int) < ((m + 1 : Nat) : Int) := by omega
    go_enter Tryz.func143, Tryz.ntmps143
    go_wp2_with fail
    clear c4 c1 f1 c1u f1u htk2 hcs hgh
    go_region
    go_wp2_with fail
    go_ret
    refine ⟨fun h0 => by rw [h0] at hk; simp at hk, fun m' hm' => ⟨g, hA, ?_, After.exists_iff (Below.refl _ u).drew⟩⟩
    rw [show m' = m by omega]
    rfl
end Go.Proofs.YtnjbfhfjdhfdlaaGreatDoor
namespace Go.Proofs.YtnjbfhfjdhfdlaaGreatDoor
open Go.RowKit

/-- what numbers leaves, where the cells are of a new block -/
def PutPost (rb sb : Nat) (tv : Value) (L : List TokD) (rest : List Value) (cur : Array Value) (ty : TypeId) (offs : List Nat) (x : Rd (List Int)) (u : World) (e : Ending) (w' : World) : Prop :=
  u.grownBy w' (some rb) ∧ match x with
    | .ok (l, r) => e = .returned (.tuple #[]) ∧ sb < w'.heap.size ∧ w'.heap[sb]? = some (.cells (putN cur offs l) ty (0, 0)) ∧ ∃ n, L.drop n = r ∧ Rd0 rb tv L n rest w'
    | .error q => e = .panicked [{ v := .iface 131 (.agg #[.int .i64 q.1, .int .i64 q.2]), recovered := false }]
theorem put_any {rb n : Nat} {tv : Value} {L : List TokD} {rest : List Value} {w w0 : World} {cur : Array Value} {ty : TypeId} (offs : List Nat) (h : Rd0 rb tv L n rest w) (htb : ∀ tb cap, tv = .slice (some ⟨tb, 0, none⟩) L.length cap → tb < rb) (hl : Last5 (L.drop n)) (hbig : L.length ≤ 1000000) (hts : ∀ t ∈ L, t.text.size ≤ 1000000) (hc : Ctx w0 rb w)
    (ho : ∀ o ∈ offs, o < cur.size) (h9 : offs.length ≤ 9) (tp : TypeId) (ptrs : Array Value) (hp : ptrs.toList = offs.map fun o => .pointer (some ⟨w.heap.size, o, none⟩)) (pc : Nat) :
    Calls Tryz.prog 121 #[.pointer (some ⟨rb, 0, none⟩), .slice (some ⟨w.heap.size + 1, 0, none⟩) offs.length pc] ((w.alloc (.cells cur ty (0, 0))).alloc (.cells ptrs tp (0, 0))) (PutPost rb w.heap.size tv L rest cur ty offs (numsR offs.length (L.drop n)) w) := by
  obtain ⟨V, hV, hVs, hVb, hVh⟩ := boxed w (.cells cur ty (0, 0))
  obtain ⟨U, hU, hUs, hUb, hUh⟩ := boxed V (.cells ptrs tp (0, 0))
  rw [hVs] at hUh
  have hwU : Below w.heap.size w U := hVb.trans (hUb.mono (by omega))
  have hrb := h.lt
  have hlo := hc.lo
  have hlen : offs.length = ptrs.size := by rw [← Array.length_toList, hp, List.length_map]
  have KN := numbers_any (pb := w.heap.size + 1) (po := 0) (pc := pc) (sb := w.heap.size) offs (h.more hwU) hl hbig hts ⟨hc.tabs, hc.bel.trans (hwU.mono hc.bel.size), hc.lo⟩ (by omega) (by omega)
    (fun tb cap e => by have := htb tb cap e; omega) (by omega) (by omega) (by omega) ((hUb.block _ (by omega)).trans hVh) ho h9
    (fun i o hi => by
      rw [Nat.zero_add, Joins.cell_of_block hUh i, ← Array.getElem?_toList, hp, List.getElem?_map, hi]; rfl)
  rw [← hV, ← hU]
  refine KN.mono ?_
  rintro e w' ⟨hg, hx⟩
  refine ⟨hg.one (grown_of_below hwU) (Nat.le_refl _), ?_⟩
  cases hn : numsR offs.length (L.drop n) with
  | error q => rw [hn] at hx; exact hx
  | ok v =>
    obtain ⟨l, r⟩ := v
    rw [hn] at hx
    exact ⟨hx.1, (Array.getElem?_eq_some_iff.1 hx.2.1).1, hx.2.1, hx.2.2⟩
end Go.Proofs.YtnjbfhfjdhfdlaaGreatDoor
namespace Go.Proofs.YtnjbfhfjdhfdlaaGreatDoor
open Go.RowKit

theorem flat_len' {α : Type} {cells : α → List Value} {size : Nat} (hs : ∀ x, (cells x).length = size) : ∀ l : List α, (l.flatMap cells).length = l.length * size
  | [] => by simp
  | x :: l => by rw [List.flatMap_cons, List.length_append, hs, flat_len' hs l, List.length_cons, Nat.add_mul, Nat.one_mul, Nat.add_comm]
theorem flat_last {α : Type} {cells : α → List Value} {size : Nat} (hs : ∀ x, (cells x).length = size) (l : List α) (x : α) (j : Nat) : ((l ++ [x]).flatMap cells)[l.length * size + j]? = (cells x)[j]? := by
  rw [List.flatMap_append, List.getElem?_append_right (by rw [flat_len' hs]; omega), flat_len' hs]
  simp
theorem flat_set {α : Type} {cells : α → List Value} {size : Nat} (hs : ∀ x, (cells x).length = size) (l : List α) {x y : α} {j : Nat} {v : Value} (h : cells y = (cells x).set j v) : ((l ++ [x]).flatMap cells).set (l.length * size + j) v = (l ++ [y]).flatMap cells := by
  rw [List.flatMap_append, List.set_append_right _ _ (by rw [flat_len' hs]; omega), flat_len' hs, List.flatMap_append]
  congr 1
  simp [h]
theorem own_set {w : World} {base : Nat} {e : TypeId} {size n g cap : Nat} {xs : List Value} (h : w.ownsRow base e size (.slice (some ⟨g, 0, none⟩) n cap) n xs) {i : Nat} (v : Value) : (w.setCell ⟨g, i, none⟩ v).ownsRow base e size (.slice (some ⟨g, 0, none⟩) n cap) n (xs.set i v) := by
  rcases own_cases h with ⟨h1, _⟩ | ⟨g', cur, h1, h2, h3, h4, h5, h6, h7⟩
  · cases h1
  · injection h1 with h1
    injection h1 with h1
    subst h1
    refine ⟨by rw [List.length_set]; exact h.1, Or.inr ⟨g, cap, cur.setIfInBounds i v, rfl, h2, block_set h3 v, h4, h5, by simp [h6], ?_⟩⟩
    rw [Array.toList_setIfInBounds, ← h7, List.take_set]
theorem Rd0.low {rb : Nat} {tv : Value} {L : List TokD} {n : Nat} {rest : List Value} {x y : World} (h : Rd0 rb tv L n rest x) (hl : ∀ tb cap, tv = .slice (some ⟨tb, 0, none⟩) L.length cap → tb < rb) (hb : Below (rb + 1) x y) : Rd0 rb tv L n rest y := by
  obtain ⟨tb, cap, h1, h2, h3, h4, h5, h6⟩ := h.toks
  have h7 := hl tb cap h1
  exact ⟨(hb.block rb (by omega)).trans h.box, tb, cap, h1, h2, h3, h4, Nat.lt_of_lt_of_le h5 hb.size, fun i t hi j u hu => (World.cell?_of_block (a := ⟨tb, i * 4 + j, none⟩) (hb.block tb (by omega))).trans (h6 i t hi j u hu)⟩
theorem itemCells_len' (x : ItemD) : x.cells.length = 7 := rfl
theorem brickCells_len' (x : BrickD) : x.cells.length = 3 := rfl
theorem setCells_len' (x : SetD) : x.cells.length = 13 := rfl
theorem cueCells_len' (x : CueD) : x.cells.length = 7 := rfl
def addItemTo (s : SetD) (A : Option Addr) (cap : Nat) (x : ItemD) : SetD := { s with items := ⟨A, cap, s.items.l ++ [x]⟩ }
section
variable {rb n : Nat} {tv : Value} {L : List TokD} {nm : ByteArray} {ht : Int} {S : Sl SetD} {R : Sl RoofD} {C : Sl CueD} {A : Sl (ByteArray × ByteArray)} {w : World} {S0 : List SetD} {s : SetD}
theorem memRows_items (hS : S.l = S0 ++ [s]) : memRows S R C A = (⟨63, 13, S.val, S.l.length, S.l.flatMap SetD.cells⟩ :: ⟨73, 4, R.val, R.l.length, R.l.flatMap RoofD.cells⟩ :: ⟨80, 7, C.val, C.l.length, C.l.flatMap CueD.cells⟩ :: ⟨83, 2, A.val, A.l.length, A.l.flatMap pairCells⟩ :: (S0.flatMap SetD.rows ++ [⟨3, 1, s.lines.val, s.lines.l.length, s.lines.l.flatMap intCells⟩])) ++ ⟨75, 7, s.items.val, s.items.l.length, s.items.l.flatMap ItemD.cells⟩ :: (⟨77, 3, s.bricks.val, s.bricks.l.length, s.bricks.l.flatMap BrickD.cells⟩ :: C.l.flatMap CueD.rows) := by
  simp [memRows, hS, SetD.rows]
theorem RIn.items (h : RIn rb tv L n nm ht S R C A w) (hS : S.l = S0 ++ [s]) : w.ownsRow (rb + 1) 75 7 s.items.val s.items.l.length (s.items.l.flatMap ItemD.cells) ∧ s.items.l.length ≤ n := by
  have hm : (⟨75, 7, s.items.val, s.items.l.length, s.items.l.flatMap ItemD.cells⟩ : Row) ∈ memRows S R C A := by rw [memRows_items hS]; simp
  exact ⟨h.rows.all _ hm, h.cnt _ hm⟩
/-- the last set's cells -/
theorem RIn.lastSet (h : RIn rb tv L n nm ht S R C A w) (hS : S.l = S0 ++ [s]) {g : Nat} (hA : S.A = some ⟨g, 0, none⟩) : rb + 1 ≤ g ∧ g < w.heap.size ∧ (∃ cur, w.heap[g]? = some (.cells cur 63 (0, 0))) ∧ ∀ j u, s.cells[j]? = some u → w.cell? ⟨g, S0.length * 13 + j, none⟩ = some u := by
  have h1 := h.sets
  rw [Sl.val, hA] at h1
  have h2 := World.ownsRow.lt h1 g rfl
  refine ⟨h2.1, h2.2, ?_, fun j u hu => ?_⟩
  · rcases own_cases h1 with ⟨h3, _⟩ | ⟨g', cur, h3, _, h4, _⟩
    · cases h3
    · injection h3 with h3
      injection h3 with h3
      subst h3
      exact ⟨cur, h4⟩
  · have h3 := World.ownsRow.cells h1 (g := g) rfl (S0.length * 13 + j) u (by rw [hS, flat_last setCells_len']; exact hu)
    rwa [show (⟨g, 0, none⟩ : Addr).add (S0.length * 13 + j) = ⟨g, S0.length * 13 + j, none⟩ by unfold Addr.add; split <;> simp_all] at h3
theorem RIn.addItem (h : RIn rb tv L n nm ht S R C A w) (hS : S.l = S0 ++ [s]) {g : Nat} (hA : S.A = some ⟨g, 0, none⟩) {w' : World} {g4 cap4 : Nat} {x : ItemD} {o : Obj}
    (hown : w'.ownsRow (rb + 1) 75 7 (.slice (some ⟨g4, 0, none⟩) (s.items.l.length + 1) cap4) (s.items.l.length + 1) (s.items.l.flatMap ItemD.cells ++ x.cells)) (hgr : (w.alloc o).grownBy w' s.items.val.ownBlock) (hg4 : s.items.val.ownBlock = some g4 ∨ g4 = w.heap.size + 1) (hn : s.items.l.length + 1 ≤ n) :
    (∃ v, w'.cell? ⟨g, S0.length * 13 + 11, none⟩ = some v) ∧ w'.frozen? ⟨g, S0.length * 13 + 11, none⟩ = false ∧ Below (rb + 1) w (w'.setCell ⟨g, S0.length * 13 + 11, none⟩ (.slice (some ⟨g4, 0, none⟩) (s.items.l.length + 1) cap4)) ∧
    RIn rb tv L n nm ht ⟨S.A, S.cap, S0 ++ [addItemTo s (some ⟨g4, 0, none⟩) cap4 x]⟩ R C A (w'.setCell ⟨g, S0.length * 13 + 11, none⟩ (.slice (some ⟨g4, 0, none⟩) (s.items.l.length + 1) cap4)) := by
  obtain ⟨hg1, hg2, ⟨cur, hg3⟩, hcell⟩ := h.lastSet hS hA
  have hrows := h.rows
  rw [memRows_items hS] at hrows
  have hsep : ∀ k, s.items.val.ownBlock = some k → k ≠ g := by
    have h1 := h.rows.sep
    rw [memRows_items hS, List.cons_append, List.pairwise_cons] at h1
    have h2 := h1.1 ⟨75, 7, s.items.val, s.items.l.length, s.items.l.flatMap ItemD.cells⟩ (by simp)
    intro k hk e
    subst e
    exact h2 k (by rw [Sl.val, hA]; rfl) hk
  have hblk : w'.heap[g]? = some (.cells cur 63 (0, 0)) := by
    rw [hgr.block g (by simp; omega) (fun e => hsep g e.symm rfl), heap_alloc_old w o hg2]; exact hg3
  have hbel : Below (rb + 1) w w' := by
    have hlt := World.ownsRow.lt (h.items hS).1
    exact Below.grown ((Below.refl (rb + 1) w).alloc (by have := h.rd.lt; omega) o) hgr (by have := h.rd.lt; simp; omega) (fun k hk => (hlt k hk).1)
  have hbel2 : Below (rb + 1) w (w'.setCell ⟨g, S0.length * 13 + 11, none⟩ (.slice (some ⟨g4, 0, none⟩) (s.items.l.length + 1) cap4)) := hbel.setCell (p := ⟨g, S0.length * 13 + 11, none⟩) hg1 _
  have hcur : w'.cell? ⟨g, S0.length * 13 + 11, none⟩ = some s.items.val := (World.cell?_of_block (a := ⟨g, S0.length * 13 + 11, none⟩) (hblk.trans hg3.symm)).trans (hcell 11 _ rfl)
  refine ⟨⟨_, hcur⟩, block_unfrozen hblk _, hbel2, (show memRest nm ht ⟨S.A, S.cap, S0 ++ [addItemTo s (some ⟨g4, 0, none⟩) cap4 x]⟩ R C A = memRest nm ht S R C A by simp [memRest, Sl.val, hS]) ▸ h.rd.low h.low hbel2, ?_, h.low, ?_⟩
  · have ha : Rows (rb + 1) (w.alloc o) _ := hrows.kept (row := none) (World.grownBy_alloc w o none) (fun k hk => by cases hk)
    have h1 := ha.turn (r' := ⟨75, 7, .slice (some ⟨g4, 0, none⟩) (s.items.l.length + 1) cap4, s.items.l.length + 1, s.items.l.flatMap ItemD.cells ++ x.cells⟩) hown hgr (fun k hk => by
      have hk' : g4 = k := by simpa [Value.ownBlock] using hk
      subst hk'
      rcases hg4 with h5 | h5
      · exact Or.inl h5
      · exact Or.inr (by simp; omega))
    have hs1 := (h1.all ⟨63, 13, S.val, S.l.length, S.l.flatMap SetD.cells⟩ (by simp))
    have h2 := Rows.turn (A := []) (r := ⟨63, 13, S.val, S.l.length, S.l.flatMap SetD.cells⟩) h1 (r' := ⟨63, 13, S.val, S.l.length, (S.l.flatMap SetD.cells).set (S0.length * 13 + 11) (.slice (some ⟨g4, 0, none⟩) (s.items.l.length + 1) cap4)⟩) (by
        unfold Row.lies at hs1 ⊢
        simp only at hs1 ⊢
        rw [Sl.val, hA] at hs1 ⊢
        exact own_set hs1 _) (by
        rw [Sl.val, hA]
        exact grown_put (World.grownBy.refl _ _)) (fun k hk => Or.inl hk)
    have he : (S.l.flatMap SetD.cells).set (S0.length * 13 + 11) (.slice (some ⟨g4, 0, none⟩) (s.items.l.length + 1) cap4) = (S0 ++ [addItemTo s (some ⟨g4, 0, none⟩) cap4 x]).flatMap SetD.cells := by
      rw [hS]
      exact flat_set setCells_len' S0 (by simp [addItemTo, SetD.cells])
    rw [he] at h2
    rw [memRows_items (S0 := S0) (s := addItemTo s (some ⟨g4, 0, none⟩) cap4 x) rfl]
    simpa [addItemTo, Sl.val, hS] using h2
  · intro r hr
    rw [memRows_items (S0 := S0) (s := addItemTo s (some ⟨g4, 0, none⟩) cap4 x) rfl] at hr
    have h3 := h.cnt
    rw [memRows_items hS] at h3
    simp only [List.mem_append, List.mem_cons, addItemTo, List.cons_append] at hr h3
    rcases hr with rfl | hr
    · have := h3 _ (Or.inl rfl)
      simp only [hS, List.length_append] at this ⊢
      exact this
    · rcases hr with rfl | hr
      · exact h3 _ (by simp)
      rcases hr with rfl | hr
      · exact h3 _ (by simp)
      rcases hr with rfl | hr
      · exact h3 _ (by simp)
      rcases hr with hr | hr
      · rcases hr with hr | rfl | hr
        · exact h3 r (by simp only [hr]; simp)
        · exact h3 _ (by simp)
        · cases hr
      · rcases hr with rfl | rfl | hr
        · simpa using hn
        · exact h3 _ (by simp)
        · exact h3 r (by simp only [hr]; simp)
end
end Go.Proofs.YtnjbfhfjdhfdlaaGreatDoor
namespace Go.Proofs.YtnjbfhfjdhfdlaaGreatDoor
open Go.RowKit

theorem moveCells_len' (x : MoveD) : x.cells.length = 5 := rfl
def addMoveTo (q : CueD) (A : Option Addr) (cap : Nat) (x : MoveD) : CueD := { q with moves := ⟨A, cap, q.moves.l ++ [x]⟩ }
section
variable {rb n : Nat} {tv : Value} {L : List TokD} {nm : ByteArray} {ht : Int} {S : Sl SetD} {R : Sl RoofD} {C : Sl CueD} {A : Sl (ByteArray × ByteArray)} {w : World} {C0 : List CueD} {q : CueD}
theorem memRows_moves (hC : C.l = C0 ++ [q]) : memRows S R C A = (⟨63, 13, S.val, S.l.length, S.l.flatMap SetD.cells⟩ :: ⟨73, 4, R.val, R.l.length, R.l.flatMap RoofD.cells⟩ :: ⟨80, 7, C.val, C.l.length, C.l.flatMap CueD.cells⟩ :: ⟨83, 2, A.val, A.l.length, A.l.flatMap pairCells⟩ :: (S.l.flatMap SetD.rows ++ C0.flatMap CueD.rows)) ++ ⟨82, 5, q.moves.val, q.moves.l.length, q.moves.l.flatMap MoveD.cells⟩ :: [] := by
  simp [memRows, hC, CueD.rows]
theorem RIn.moves (h : RIn rb tv L n nm ht S R C A w) (hC : C.l = C0 ++ [q]) : w.ownsRow (rb + 1) 82 5 q.moves.val q.moves.l.length (q.moves.l.flatMap MoveD.cells) ∧ q.moves.l.length ≤ n := by
  have hm : (⟨82, 5, q.moves.val, q.moves.l.length, q.moves.l.flatMap MoveD.cells⟩ : Row) ∈ memRows S R C A := by rw [memRows_moves hC]; simp
  exact ⟨h.rows.all _ hm, h.cnt _ hm⟩
theorem RIn.cues (h : RIn rb tv L n nm ht S R C A w) : w.ownsRow (rb + 1) 80 7 C.val C.l.length (C.l.flatMap CueD.cells) ∧ C.l.length ≤ n := by
  have hm : (⟨80, 7, C.val, C.l.length, C.l.flatMap CueD.cells⟩ : Row) ∈ memRows S R C A := by unfold memRows; simp
  exact ⟨h.rows.all _ hm, h.cnt _ hm⟩
/-- the last cue's cells -/
theorem RIn.lastCue (h : RIn rb tv L n nm ht S R C A w) (hC : C.l = C0 ++ [q]) {g : Nat} (hA : C.A = some ⟨g, 0, none⟩) : rb + 1 ≤ g ∧ g < w.heap.size ∧ (∃ cur, w.heap[g]? = some (.cells cur 80 (0, 0))) ∧ ∀ j u, q.cells[j]? = some u → w.cell? ⟨g, C0.length * 7 + j, none⟩ = some u := by
  have h1 := h.cues.1
  rw [Sl.val, hA] at h1
  have h2 := World.ownsRow.lt h1 g rfl
  refine ⟨h2.1, h2.2, ?_, fun j u hu => ?_⟩
  · rcases own_cases h1 with ⟨h3, _⟩ | ⟨g', cur, h3, _, h4, _⟩
    · cases h3
    · injection h3 with h3
      injection h3 with h3
      subst h3
      exact ⟨cur, h4⟩
  · have h3 := World.ownsRow.cells h1 (g := g) rfl (C0.length * 7 + j) u (by rw [hC, flat_last cueCells_len']; exact hu)
    rwa [show (⟨g, 0, none⟩ : Addr).add (C0.length * 7 + j) = ⟨g, C0.length * 7 + j, none⟩ by unfold Addr.add; split <;> simp_all] at h3
theorem RIn.addMove (h : RIn rb tv L n nm ht S R C A w) (hC : C.l = C0 ++ [q]) {g : Nat} (hA : C.A = some ⟨g, 0, none⟩) {w' : World} {g4 cap4 : Nat} {x : MoveD} {o : Obj}
    (hown : w'.ownsRow (rb + 1) 82 5 (.slice (some ⟨g4, 0, none⟩) (q.moves.l.length + 1) cap4) (q.moves.l.length + 1) (q.moves.l.flatMap MoveD.cells ++ x.cells)) (hgr : (w.alloc o).grownBy w' q.moves.val.ownBlock) (hg4 : q.moves.val.ownBlock = some g4 ∨ g4 = w.heap.size + 1) (hn : q.moves.l.length + 1 ≤ n) :
    (∃ v, w'.cell? ⟨g, C0.length * 7 + 4, none⟩ = some v) ∧ w'.frozen? ⟨g, C0.length * 7 + 4, none⟩ = false ∧ Below (rb + 1) w (w'.setCell ⟨g, C0.length * 7 + 4, none⟩ (.slice (some ⟨g4, 0, none⟩) (q.moves.l.length + 1) cap4)) ∧
    RIn rb tv L n nm ht S R ⟨C.A, C.cap, C0 ++ [addMoveTo q (some ⟨g4, 0, none⟩) cap4 x]⟩ A (w'.setCell ⟨g, C0.length * 7 + 4, none⟩ (.slice (some ⟨g4, 0, none⟩) (q.moves.l.length + 1) cap4)) := by
  obtain ⟨hg1, hg2, ⟨cur, hg3⟩, hcell⟩ := h.lastCue hC hA
  have hrows := h.rows
  rw [memRows_moves hC] at hrows
  have hsep : ∀ k, q.moves.val.ownBlock = some k → k ≠ g := by
    have h1 := h.rows.sep
    rw [memRows_moves hC, List.cons_append, List.pairwise_cons, List.cons_append, List.pairwise_cons, List.cons_append, List.pairwise_cons] at h1
    have h2 := h1.2.2.1 ⟨82, 5, q.moves.val, q.moves.l.length, q.moves.l.flatMap MoveD.cells⟩ (by simp)
    intro k hk e
    subst e
    exact h2 k (by rw [Sl.val, hA]; rfl) hk
  have hblk : w'.heap[g]? = some (.cells cur 80 (0, 0)) := by
    rw [hgr.block g (by simp; omega) (fun e => hsep g e.symm rfl), heap_alloc_old w o hg2]; exact hg3
  have hbel : Below (rb + 1) w w' := by
    have hlt := World.ownsRow.lt (h.moves hC).1
    exact Below.grown ((Below.refl (rb + 1) w).alloc (by have := h.rd.lt; omega) o) hgr (by have := h.rd.lt; simp; omega) (fun k hk => (hlt k hk).1)
  have hbel2 : Below (rb + 1) w (w'.setCell ⟨g, C0.length * 7 + 4, none⟩ (.slice (some ⟨g4, 0, none⟩) (q.moves.l.length + 1) cap4)) := hbel.setCell (p := ⟨g, C0.length * 7 + 4, none⟩) hg1 _
  have hcur : w'.cell? ⟨g, C0.length * 7 + 4, none⟩ = some q.moves.val := (World.cell?_of_block (a := ⟨g, C0.length * 7 + 4, none⟩) (hblk.trans hg3.symm)).trans (hcell 4 _ rfl)
  refine ⟨⟨_, hcur⟩, block_unfrozen hblk _, hbel2, (show memRest nm ht S R ⟨C.A, C.cap, C0 ++ [addMoveTo q (some ⟨g4, 0, none⟩) cap4 x]⟩ A = memRest nm ht S R C A by simp [memRest, Sl.val, hC]) ▸ h.rd.low h.low hbel2, ?_, h.low, ?_⟩
  · have ha : Rows (rb + 1) (w.alloc o) _ := hrows.kept (row := none) (World.grownBy_alloc w o none) (fun k hk => by cases hk)
    have h1 := ha.turn (r' := ⟨82, 5, .slice (some ⟨g4, 0, none⟩) (q.moves.l.length + 1) cap4, q.moves.l.length + 1, q.moves.l.flatMap MoveD.cells ++ x.cells⟩) hown hgr (fun k hk => by
      have hk' : g4 = k := by simpa [Value.ownBlock] using hk
      subst hk'
      rcases hg4 with h5 | h5
      · exact Or.inl h5
      · exact Or.inr (by simp; omega))
    have hs1 := (h1.all ⟨80, 7, C.val, C.l.length, C.l.flatMap CueD.cells⟩ (by simp))
    have h2 := Rows.turn (A := [⟨63, 13, S.val, S.l.length, S.l.flatMap SetD.cells⟩, ⟨73, 4, R.val, R.l.length, R.l.flatMap RoofD.cells⟩]) (r := ⟨80, 7, C.val, C.l.length, C.l.flatMap CueD.cells⟩) h1 (r' := ⟨80, 7, C.val, C.l.length, (C.l.flatMap CueD.cells).set (C0.length * 7 + 4) (.slice (some ⟨g4, 0, none⟩) (q.moves.l.length + 1) cap4)⟩) (by
        unfold Row.lies at hs1 ⊢
        simp only at hs1 ⊢
        rw [Sl.val, hA] at hs1 ⊢
        exact own_set hs1 _) (by
        rw [Sl.val, hA]
        exact grown_put (World.grownBy.refl _ _)) (fun k hk => Or.inl hk)
    have he : (C.l.flatMap CueD.cells).set (C0.length * 7 + 4) (.slice (some ⟨g4, 0, none⟩) (q.moves.l.length + 1) cap4) = (C0 ++ [addMoveTo q (some ⟨g4, 0, none⟩) cap4 x]).flatMap CueD.cells := by
      rw [hC]
      exact flat_set cueCells_len' C0 (by simp [addMoveTo, CueD.cells, Sl.val])
    rw [he] at h2
    rw [memRows_moves (C0 := C0) (q := addMoveTo q (some ⟨g4, 0, none⟩) cap4 x) rfl]
    simpa [addMoveTo, Sl.val, hC] using h2
  · intro r hr
    rw [memRows_moves (C0 := C0) (q := addMoveTo q (some ⟨g4, 0, none⟩) cap4 x) rfl] at hr
    have h3 := h.cnt
    rw [memRows_moves hC] at h3
    simp only [List.mem_append, List.mem_cons, addMoveTo, List.cons_append] at hr h3
    rcases hr with rfl | hr
    · exact h3 _ (by simp)
    rcases hr with rfl | hr
    · exact h3 _ (by simp)
    rcases hr with rfl | hr
    · have := h3 _ (Or.inr (Or.inr (Or.inl rfl)))
      simp only [hC, List.length_append] at this ⊢
      exact this
    rcases hr with rfl | hr
    · exact h3 _ (by simp)
    rcases hr with (hr | hr) | hr
    · exact h3 r (by simp only [hr]; simp)
    · exact h3 r (by simp only [hr]; simp)
    · rcases hr with rfl | hr
      · simpa using hn
      · cases hr
end
end Go.Proofs.YtnjbfhfjdhfdlaaGreatDoor
namespace Go.Proofs.YtnjbfhfjdhfdlaaGreatDoor
open Go.RowKit

theorem Rd0.put {rb : Nat} {tv : Value} {L : List TokD} {n : Nat} {rest : List Value} {x : World} (h : Rd0 rb tv L n rest x) (j : Nat) (v : Value) : Rd0 rb tv L n (rest.set j v) (x.setCell ⟨rb, j + 2, none⟩ v) := by
  refine h.grown (grown_put (World.grownBy.refl x _)) ?_
  rw [block_set h.box]
  simp
theorem roofCells_len' (x : RoofD) : x.cells.length = 4 := rfl
theorem pairCells_len' (x : ByteArray × ByteArray) : (pairCells x).length = 2 := rfl
section
variable {rb n : Nat} {tv : Value} {L : List TokD} {nm : ByteArray} {ht : Int} {S : Sl SetD} {R : Sl RoofD} {C : Sl CueD} {A : Sl (ByteArray × ByteArray)} {w w' : World}
/-- one of the rows has grown, and its slice is stored in the reader's block -/
theorem RIn.top (h : RIn rb tv L n nm ht S R C A w) {rs A1 B1 : List Row} {r : Row} (hrs : Rows (rb + 1) w rs) (hr : rs = A1 ++ r :: B1) {e : TypeId} {size k g4 cap4 : Nat} {xs : List Value} {o : Obj} (hown : w'.ownsRow (rb + 1) e size (.slice (some ⟨g4, 0, none⟩) k cap4) k xs) (hgr : (w.alloc o).grownBy w' r.v.ownBlock) (hg4 : r.v.ownBlock = some g4 ∨ g4 = w.heap.size + 1) (j : Nat) (hj : j < 6) :
    (∃ v, w'.cell? ⟨rb, j + 2, none⟩ = some v) ∧ w'.frozen? ⟨rb, j + 2, none⟩ = false ∧ Below rb w (w'.setCell ⟨rb, j + 2, none⟩ (.slice (some ⟨g4, 0, none⟩) k cap4)) ∧
    Rd0 rb tv L n ((memRest nm ht S R C A).set j (.slice (some ⟨g4, 0, none⟩) k cap4)) (w'.setCell ⟨rb, j + 2, none⟩ (.slice (some ⟨g4, 0, none⟩) k cap4)) ∧
    Rows (rb + 1) (w'.setCell ⟨rb, j + 2, none⟩ (.slice (some ⟨g4, 0, none⟩) k cap4)) (A1 ++ ⟨e, size, .slice (some ⟨g4, 0, none⟩) k cap4, k, xs⟩ :: B1) := by
  subst hr
  have hlt := World.ownsRow.lt (hrs.all r (by simp))
  have hrb := h.rd.lt
  have hbel : Below (rb + 1) w w' := Below.grown ((Below.refl (rb + 1) w).alloc (by omega) o) hgr (by simp; omega) (fun k hk => (hlt k hk).1)
  have hrd := h.rd.low h.low hbel
  have ha : Rows (rb + 1) (w.alloc o) _ := hrs.kept (row := none) (World.grownBy_alloc w o none) (fun k hk => by cases hk)
  have h1 := ha.turn (r' := ⟨e, size, .slice (some ⟨g4, 0, none⟩) k cap4, k, xs⟩) hown hgr (fun k hk => by
    have hk' : g4 = k := by simpa [Value.ownBlock] using hk
    subst hk'
    rcases hg4 with h5 | h5
    · exact Or.inl h5
    · exact Or.inr (by simp; omega))
  refine ⟨⟨(memRest nm ht S R C A)[j], ?_⟩, hrd.free _, (hbel.mono (show rb ≤ rb + 1 by omega)).setCell (p := ⟨rb, j + 2, none⟩) (Nat.le_refl _) _, hrd.put j _, h1.kept (grown_put (World.grownBy.refl _ (some rb))) (fun k hk => by injection hk with hk; omega)⟩
  rw [hrd.cellr j]
  exact List.getElem?_eq_getElem (by simpa [memRest] using hj)
theorem RIn.roofs (h : RIn rb tv L n nm ht S R C A w) : w.ownsRow (rb + 1) 73 4 R.val R.l.length (R.l.flatMap RoofD.cells) ∧ R.l.length ≤ n := by
  have hm : (⟨73, 4, R.val, R.l.length, R.l.flatMap RoofD.cells⟩ : Row) ∈ memRows S R C A := by unfold memRows; simp
  exact ⟨h.rows.all _ hm, h.cnt _ hm⟩
theorem RIn.pairs (h : RIn rb tv L n nm ht S R C A w) : w.ownsRow (rb + 1) 83 2 A.val A.l.length (A.l.flatMap pairCells) ∧ A.l.length ≤ n := by
  have hm : (⟨83, 2, A.val, A.l.length, A.l.flatMap pairCells⟩ : Row) ∈ memRows S R C A := by unfold memRows; simp
  exact ⟨h.rows.all _ hm, h.cnt _ hm⟩
theorem RIn.addRoof (h : RIn rb tv L n nm ht S R C A w) {g4 cap4 : Nat} {x : RoofD} {o : Obj}
    (hown : w'.ownsRow (rb + 1) 73 4 (.slice (some ⟨g4, 0, none⟩) (R.l.length + 1) cap4) (R.l.length + 1) (R.l.flatMap RoofD.cells ++ x.cells)) (hgr : (w.alloc o).grownBy w' R.val.ownBlock) (hg4 : R.val.ownBlock = some g4 ∨ g4 = w.heap.size + 1) (hn : R.l.length + 1 ≤ n) :
    (∃ v, w'.cell? ⟨rb, 5, none⟩ = some v) ∧ w'.frozen? ⟨rb, 5, none⟩ = false ∧ Below rb w (w'.setCell ⟨rb, 5, none⟩ (.slice (some ⟨g4, 0, none⟩) (R.l.length + 1) cap4)) ∧
    RIn rb tv L n nm ht S ⟨some ⟨g4, 0, none⟩, cap4, R.l ++ [x]⟩ C A (w'.setCell ⟨rb, 5, none⟩ (.slice (some ⟨g4, 0, none⟩) (R.l.length + 1) cap4)) := by
  obtain ⟨h1, h2, h3, h4, h5⟩ := h.top h.rows (A1 := [_]) (r := ⟨73, 4, R.val, R.l.length, R.l.flatMap RoofD.cells⟩) rfl hown hgr hg4 3 (by omega)
  refine ⟨h1, h2, h3, by simpa [memRest, Sl.val] using h4, by simpa [memRows, Sl.val] using h5, h.low, fun r hr => ?_⟩
  have hc := h.cnt
  unfold memRows at hr hc
  simp only [List.mem_cons] at hr hc
  rcases hr with rfl | rfl | hr
  · exact hc _ (Or.inl rfl)
  · simpa using hn
  · exact hc r (Or.inr (Or.inr hr))
theorem RIn.addPair (h : RIn rb tv L n nm ht S R C A w) {g4 cap4 : Nat} {x : ByteArray × ByteArray} {o : Obj}
    (hown : w'.ownsRow (rb + 1) 83 2 (.slice (some ⟨g4, 0, none⟩) (A.l.length + 1) cap4) (A.l.length + 1) (A.l.flatMap pairCells ++ pairCells x)) (hgr : (w.alloc o).grownBy w' A.val.ownBlock) (hg4 : A.val.ownBlock = some g4 ∨ g4 = w.heap.size + 1) (hn : A.l.length + 1 ≤ n) :
    (∃ v, w'.cell? ⟨rb, 7, none⟩ = some v) ∧ w'.frozen? ⟨rb, 7, none⟩ = false ∧ Below rb w (w'.setCell ⟨rb, 7, none⟩ (.slice (some ⟨g4, 0, none⟩) (A.l.length + 1) cap4)) ∧
    RIn rb tv L n nm ht S R C ⟨some ⟨g4, 0, none⟩, cap4, A.l ++ [x]⟩ (w'.setCell ⟨rb, 7, none⟩ (.slice (some ⟨g4, 0, none⟩) (A.l.length + 1) cap4)) := by
  obtain ⟨h1, h2, h3, h4, h5⟩ := h.top h.rows (A1 := [_, _, _]) (r := ⟨83, 2, A.val, A.l.length, A.l.flatMap pairCells⟩) rfl hown hgr hg4 5 (by omega)
  refine ⟨h1, h2, h3, by simpa [memRest, Sl.val] using h4, by simpa [memRows, Sl.val] using h5, h.low, fun r hr => ?_⟩
  have hc := h.cnt
  unfold memRows at hr hc
  simp only [List.mem_cons] at hr hc
  rcases hr with rfl | rfl | rfl | rfl | hr
  · exact hc _ (Or.inl rfl)
  · exact hc _ (Or.inr (Or.inl rfl))
  · exact hc _ (Or.inr (Or.inr (Or.inl rfl)))
  · simpa using hn
  · exact hc r (Or.inr (Or.inr (Or.inr (Or.inr hr))))
/-- a new cue, without moves -/
theorem RIn.addCue (h : RIn rb tv L n nm ht S R C A w) {g4 cap4 : Nat} {q : CueD} (hq : q.moves = ⟨none, 0, []⟩) {o : Obj}
    (hown : w'.ownsRow (rb + 1) 80 7 (.slice (some ⟨g4, 0, none⟩) (C.l.length + 1) cap4) (C.l.length + 1) (C.l.flatMap CueD.cells ++ q.cells)) (hgr : (w.alloc o).grownBy w' C.val.ownBlock) (hg4 : C.val.ownBlock = some g4 ∨ g4 = w.heap.size + 1) (hn : C.l.length + 1 ≤ n) :
    (∃ v, w'.cell? ⟨rb, 6, none⟩ = some v) ∧ w'.frozen? ⟨rb, 6, none⟩ = false ∧ Below rb w (w'.setCell ⟨rb, 6, none⟩ (.slice (some ⟨g4, 0, none⟩) (C.l.length + 1) cap4)) ∧
    RIn rb tv L n nm ht S R ⟨some ⟨g4, 0, none⟩, cap4, C.l ++ [q]⟩ A (w'.setCell ⟨rb, 6, none⟩ (.slice (some ⟨g4, 0, none⟩) (C.l.length + 1) cap4)) := by
  obtain ⟨h1, h2, h3, h4, h5⟩ := h.top h.rows (A1 := [_, _]) (r := ⟨80, 7, C.val, C.l.length, C.l.flatMap CueD.cells⟩) rfl hown hgr hg4 4 (by omega)
  have h6 := (h5.nil_cons 82 5).perm (List.perm_append_singleton _ _).symm
  refine ⟨h1, h2, h3, by simpa [memRest, Sl.val] using h4, by simpa [memRows, Sl.val, CueD.rows, hq] using h6, h.low, fun r hr => ?_⟩
  have hc := h.cnt
  unfold memRows at hr hc
  simp only [List.mem_cons, List.mem_append, List.flatMap_append] at hr hc
  rcases hr with rfl | rfl | rfl | rfl | hr | hr | hr
  · exact hc _ (Or.inl rfl)
  · exact hc _ (Or.inr (Or.inl rfl))
  · simpa using hn
  · exact hc _ (Or.inr (Or.inr (Or.inr (Or.inl rfl))))
  · exact hc r (Or.inr (Or.inr (Or.inr (Or.inr (Or.inl hr)))))
  · exact hc r (Or.inr (Or.inr (Or.inr (Or.inr (Or.inr hr)))))
  · simp [CueD.rows, hq] at hr
    rw [hr]; exact Nat.zero_le _
end
end Go.Proofs.YtnjbfhfjdhfdlaaGreatDoor
namespace Go.Proofs.YtnjbfhfjdhfdlaaGreatDoor
open Go.RowKit

theorem three_perm {α : Type} (a b c : α) (Q Y : List α) : (c :: b :: a :: (Q ++ Y)).Perm (Q ++ ([a, b, c] ++ Y)) := by
  have h1 : (([c, b, a] ++ Q) ++ Y).Perm ((Q ++ [c, b, a]) ++ Y) := List.perm_append_comm.append_right Y
  have h2 : (Q ++ ([c, b, a] ++ Y)).Perm (Q ++ ([a, b, c] ++ Y)) := List.Perm.append_left Q ((List.reverse_perm [a, b, c]).append_right Y)
  rw [List.append_assoc] at h1
  exact h1.trans ((by rw [List.append_assoc] : (Q ++ [c, b, a]) ++ Y = Q ++ ([c, b, a] ++ Y)) ▸ h2)
section
variable {rb n : Nat} {tv : Value} {L : List TokD} {nm : ByteArray} {ht : Int} {S : Sl SetD} {R : Sl RoofD} {C : Sl CueD} {A : Sl (ByteArray × ByteArray)} {w w' : World}
def linesRow (v : Value) (l : List Int) : Row := ⟨3, 1, v, l.length, l.flatMap intCells⟩
/-- a new set, with its lines' row, without items and bricks -/
theorem RIn.addSet (h : RIn rb tv L n nm ht S R C A w) {g4 cap4 : Nat} {s : SetD} (hi : s.items = ⟨none, 0, []⟩) (hb : s.bricks = ⟨none, 0, []⟩) (hl : Rows (rb + 1) w (linesRow s.lines.val s.lines.l :: memRows S R C A)) (hln : s.lines.l.length ≤ n) {o : Obj}
    (hown : w'.ownsRow (rb + 1) 63 13 (.slice (some ⟨g4, 0, none⟩) (S.l.length + 1) cap4) (S.l.length + 1) (S.l.flatMap SetD.cells ++ s.cells)) (hgr : (w.alloc o).grownBy w' S.val.ownBlock) (hg4 : S.val.ownBlock = some g4 ∨ g4 = w.heap.size + 1) (hn : S.l.length + 1 ≤ n) :
    (∃ v, w'.cell? ⟨rb, 4, none⟩ = some v) ∧ w'.frozen? ⟨rb, 4, none⟩ = false ∧ Below rb w (w'.setCell ⟨rb, 4, none⟩ (.slice (some ⟨g4, 0, none⟩) (S.l.length + 1) cap4)) ∧
    RIn rb tv L n nm ht ⟨some ⟨g4, 0, none⟩, cap4, S.l ++ [s]⟩ R C A (w'.setCell ⟨rb, 4, none⟩ (.slice (some ⟨g4, 0, none⟩) (S.l.length + 1) cap4)) := by
  obtain ⟨h1, h2, h3, h4, h5⟩ := h.top hl (A1 := [linesRow s.lines.val s.lines.l]) (r := ⟨63, 13, S.val, S.l.length, S.l.flatMap SetD.cells⟩) rfl hown hgr hg4 2 (by omega)
  have h6 := ((h5.nil_cons 75 7).nil_cons 77 3).perm (three_perm _ _ _ (⟨63, 13, .slice (some ⟨g4, 0, none⟩) (S.l.length + 1) cap4, S.l.length + 1, S.l.flatMap SetD.cells ++ s.cells⟩ :: ⟨73, 4, R.val, R.l.length, R.l.flatMap RoofD.cells⟩ :: ⟨80, 7, C.val, C.l.length, C.l.flatMap CueD.cells⟩ :: ⟨83, 2, A.val, A.l.length, A.l.flatMap pairCells⟩ :: S.l.flatMap SetD.rows) (C.l.flatMap CueD.rows))
  refine ⟨h1, h2, h3, by simpa [memRest, Sl.val] using h4, by simpa [memRows, Sl.val, SetD.rows, hi, hb, linesRow] using h6, h.low, fun r hr => ?_⟩
  have hc := h.cnt
  unfold memRows at hr hc
  simp only [List.mem_cons, List.mem_append, List.flatMap_append] at hr hc
  rcases hr with rfl | rfl | rfl | rfl | (hr | hr) | hr
  · simpa using hn
  · exact hc _ (Or.inr (Or.inl rfl))
  · exact hc _ (Or.inr (Or.inr (Or.inl rfl)))
  · exact hc _ (Or.inr (Or.inr (Or.inr (Or.inl rfl))))
  · exact hc r (Or.inr (Or.inr (Or.inr (Or.inr (Or.inl hr)))))
  · simp [SetD.rows, hi, hb] at hr
    rcases hr with rfl | rfl | rfl
    · exact hln
    · exact Nat.zero_le _
    · exact Nat.zero_le _
  · exact hc r (Or.inr (Or.inr (Or.inr (Or.inr (Or.inr hr)))))
end
end Go.Proofs.YtnjbfhfjdhfdlaaGreatDoor
namespace Go.Proofs.YtnjbfhfjdhfdlaaGreatDoor
open Go.RowKit

/-- what a loop over the numbers of a line has read -/
def MoreTo (F : Nat) (ts : List TokD) (l : List Int) (more : Bool) (ts' : List TokD) : Prop :=
  match more with
  | true => ∃ f, ts'.length ≤ f ∧ moreR F ts = bindR (moreR f ts') fun l' r => .ok (l ++ l', r)
  | false => moreR F ts = .ok (l, ts')
theorem MoreTo.start (ts : List TokD) : MoreTo ts.length ts [] true ts := by
  refine ⟨ts.length, Nat.le_refl _, ?_⟩
  cases moreR ts.length ts with
  | error p => rfl
  | ok v => rfl
theorem moreR_err {f : Nat} {ts : List TokD} {q : Int × Int} (h : numR ts = .error q) : moreR (f + 1) ts = .error q := by rw [moreR, h]
theorem MoreTo.err {F : Nat} {ts ts' : List TokD} {l : List Int} {q : Int × Int} (h : MoreTo F ts l true ts') (hne : ts' ≠ []) (hv : numR ts' = .error q) : moreR F ts = .error q := by
  obtain ⟨f, hf, h1⟩ := h
  cases f with
  | zero => exact absurd (List.eq_nil_of_length_eq_zero (by omega)) hne
  | succ f => rw [h1, moreR_err hv]; rfl
theorem MoreTo.step {F : Nat} {ts ts' r : List TokD} {l : List Int} {v : Int} (h : MoreTo F ts l true ts') (hne : ts' ≠ []) (hv : numR ts' = .ok (v, r)) : MoreTo F ts (l ++ [v]) (decide (kindT r ≠ 4)) r := by
  obtain ⟨f, hf, h1⟩ := h
  cases f with
  | zero => exact absurd (List.eq_nil_of_length_eq_zero (by omega)) hne
  | succ f =>
    have hl := num_less ts' v r hv
    by_cases hk : kindT r = 4
    · rw [decide_eq_false (by simpa using hk)]
      show moreR F ts = _
      rw [h1, moreR, hv]
      simp only [hk, if_true, bindR]
    · rw [decide_eq_true hk]
      refine ⟨f, by omega, ?_⟩
      rw [h1, moreR, hv]
      simp only [if_neg hk]
      cases moreR f r with
      | error p => rfl
      | ok w => simp [bindR]
end Go.Proofs.YtnjbfhfjdhfdlaaGreatDoor
namespace Go.Proofs.YtnjbfhfjdhfdlaaGreatDoor
open Go.RowKit

def setBox (nm : ByteArray) (a : List Int) (v : Value) : Array Value := #[.string nm, .int .i64 (nth a 0), .int .i64 (nth a 1), .int .i64 (nth a 2), .int .i64 (nth a 3), v, .int .i64 (nth a 4), .int .i64 (nth a 5), .int .i64 (nth a 6), .int .i64 (nth a 7), .int .i64 (nth a 8), .slice none 0 0, .slice none 0 0]
theorem Rows.kept2 {base : Nat} {w w' : World} {rs : List Row} {row : Option Nat} (h : Rows base w rs) (hg : w.grownBy w' row) (hne : ∀ r ∈ rs, r.v.ownBlock = none ∨ r.v.ownBlock ≠ row) : Rows base w' rs := ⟨fun r hm => (h.all r hm).kept hg (hne r hm), h.sep⟩
theorem Rows.tail {base : Nat} {w : World} {r : Row} {rs : List Row} (h : Rows base w (r :: rs)) : Rows base w rs := ⟨fun r hm => h.all r (List.mem_cons_of_mem _ hm), (List.pairwise_cons.1 h.sep).2⟩
structure SetSt (rb sb : Nat) (tv : Value) (L : List TokD) (hn : ByteArray) (ht : Int) (S : Sl SetD) (R : Sl RoofD) (C : Sl CueD) (A : Sl (ByteArray × ByteArray)) (u : World) (nm : ByteArray) (a : List Int) (v : Value) (l : List Int) (m : Nat) (x : World) : Prop where
  rin : RIn rb tv L m hn ht S R C A x
  rows : Rows (rb + 1) x (linesRow v l :: memRows S R C A)
  box : x.heap[sb]? = some (.cells (setBox nm a v) 63 (0, 0))
  frame : u.grownBy x (some rb)
  fresh : ∀ k, v.ownBlock = some k → u.heap.size ≤ k ∧ k ≠ sb
  cnt : l.length ≤ m
section
variable {rb sb : Nat} {tv : Value} {L : List TokD} {hn : ByteArray} {ht : Int} {S : Sl SetD} {R : Sl RoofD} {C : Sl CueD} {A : Sl (ByteArray × ByteArray)} {u : World} {nm : ByteArray} {a : List Int} {v : Value} {l : List Int} {m : Nat} {x y : World}
/-- the reader's block alone has turned -/
theorem SetSt.kept {m' : Nat} (h : SetSt rb sb tv L hn ht S R C A u nm a v l m x) (hne : sb ≠ rb) (hg : x.grownBy y (some rb)) (hr : Rd0 rb tv L m' (memRest hn ht S R C A) y) (hm : m ≤ m') : SetSt rb sb tv L hn ht S R C A u nm a v l m' y :=
  ⟨h.rin.kept hg hr hm, h.rows.kept hg (fun k hk => by injection hk with hk; omega), (hg.block sb (Array.getElem?_eq_some_iff.1 h.box).1 (fun e => hne (by injection e))).trans h.box, grown_trans h.frame hg, h.fresh, Nat.le_trans h.cnt hm⟩
theorem SetSt.own (h : SetSt rb sb tv L hn ht S R C A u nm a v l m x) : x.ownsRow (rb + 1) 3 1 v l.length (l.flatMap intCells) := h.rows.all _ List.mem_cons_self
/-- a number more in the lines' row -/
theorem SetSt.append (h : SetSt rb sb tv L hn ht S R C A u nm a v l m x) (hsb : u.heap.size ≤ sb) (hlo : rb + 1 ≤ sb) {g4 cap4 : Nat} {i : Int} {o : Obj}
    (hown : y.ownsRow (rb + 1) 3 1 (.slice (some ⟨g4, 0, none⟩) (l.length + 1) cap4) (l.length + 1) (l.flatMap intCells ++ intCells i)) (hgr : (x.alloc o).grownBy y v.ownBlock) (hg4 : v.ownBlock = some g4 ∨ g4 = x.heap.size + 1) (hm : l.length + 1 ≤ m)
    (hsep : ∀ r ∈ memRows S R C A, r.v.ownBlock ≠ some sb) :
    (∃ z, y.cell? ⟨sb, 5, none⟩ = some z) ∧ y.frozen? ⟨sb, 5, none⟩ = false ∧ SetSt rb sb tv L hn ht S R C A u nm a (.slice (some ⟨g4, 0, none⟩) (l.length + 1) cap4) (l ++ [i]) m (y.setCell ⟨sb, 5, none⟩ (.slice (some ⟨g4, 0, none⟩) (l.length + 1) cap4)) := by
  have hx := (Array.getElem?_eq_some_iff.1 h.box).1
  have hlt := World.ownsRow.lt h.own
  have hrbx := h.rin.rd.lt
  have ho : y.heap[sb]? = some (.cells (setBox nm a v) 63 (0, 0)) := by
    rw [hgr.block sb (by simp; omega) (fun e => (h.fresh sb e.symm).2 rfl), heap_alloc_old x o hx]; exact h.box
  have hbel : Below (rb + 1) x y := Below.grown ((Below.refl (rb + 1) x).alloc (by omega) o) hgr (by simp; omega) (fun k hk => (hlt k hk).1)
  have hbel2 : Below (rb + 1) x (y.setCell ⟨sb, 5, none⟩ (.slice (some ⟨g4, 0, none⟩) (l.length + 1) cap4)) := hbel.setCell (p := ⟨sb, 5, none⟩) hlo _
  have ha : Rows (rb + 1) (x.alloc o) _ := h.rows.kept (row := none) (World.grownBy_alloc x o none) (fun k hk => by cases hk)
  have hg5 : g4 ≠ sb := by
    rcases hg4 with h5 | h5
    · exact (h.fresh g4 h5).2
    · omega
  have h1 := Rows.turn (A := []) (r := linesRow v l) ha (r' := linesRow (.slice (some ⟨g4, 0, none⟩) (l.length + 1) cap4) (l ++ [i])) (by
      unfold Row.lies linesRow
      simp only [List.length_append, List.length_singleton, List.flatMap_append, List.flatMap_singleton]
      exact hown) hgr (fun k hk => by
      have hk' : g4 = k := by simpa [Value.ownBlock, linesRow] using hk
      subst hk'
      rcases hg4 with h5 | h5
      · exact Or.inl h5
      · exact Or.inr (by simp; omega))
  have h2 := h1.kept2 (grown_put (World.grownBy.refl y (some sb)) (i := 5) (v := .slice (some ⟨g4, 0, none⟩) (l.length + 1) cap4)) (fun r hr => by
    rcases List.mem_cons.1 hr with rfl | hr
    · exact Or.inr (fun e => hg5 (by simpa [Value.ownBlock, linesRow] using e))
    · exact Or.inr (hsep r hr))
  refine ⟨⟨v, (Joins.cell_of_block ho 5).trans rfl⟩, block_unfrozen ho 5, ⟨h.rin.rd.low h.rin.low hbel2, Rows.tail h2, h.rin.low, h.rin.cnt⟩, h2, block_set ho _, ?_, fun k hk => ?_, by simpa using hm⟩
  · refine ⟨hbel2.os.trans h.frame.os, hbel2.tape.trans h.frame.tape, hbel2.output.trans h.frame.output, Nat.le_trans h.frame.size hbel2.size, fun k hk hne => ?_⟩
    have hk2 : k < x.heap.size := Nat.lt_of_lt_of_le hk h.frame.size
    rw [Below.heap_setCell _ _ _ _ (by simp only; omega), hgr.block k (by simp; omega) (fun e => by have := (h.fresh k e.symm).1; omega), heap_alloc_old x o hk2]
    exact h.frame.block k hk hne
  · have hk' : g4 = k := by simpa [Value.ownBlock] using hk
    subst hk'
    refine ⟨?_, hg5⟩
    rcases hg4 with h5 | h5
    · exact (h.fresh g4 h5).1
    · have := h.frame.size; omega
end
end Go.Proofs.YtnjbfhfjdhfdlaaGreatDoor
namespace Go.Proofs.YtnjbfhfjdhfdlaaGreatDoor
open Go.RowKit

theorem putN_set (nm : ByteArray) (a1 a2 a3 a4 a5 a6 a7 a8 a9 : Int) : putN #[.string nm, .int .i64 0, .int .i64 0, .int .i64 0, .int .i64 0, .slice none 0 0, .int .i64 0, .int .i64 0, .int .i64 0, .int .i64 0, .int .i64 0, .slice none 0 0, .slice none 0 0] [1, 2, 3, 4, 6, 7, 8, 9, 10] [a1, a2, a3, a4, a5, a6, a7, a8, a9] = setBox nm [a1, a2, a3, a4, a5, a6, a7, a8, a9] (.slice none 0 0) := by
  simp [putN, setBox, nth]
end Go.Proofs.YtnjbfhfjdhfdlaaGreatDoor
