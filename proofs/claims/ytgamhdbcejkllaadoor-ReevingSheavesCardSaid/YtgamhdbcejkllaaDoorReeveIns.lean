/- slices.Insert of one hold into a row of holds of its own: in place, or in a new row. -/
import Derived.Test.YtgamhdbcejkllaaDoorTurnMem
import Derived.Shelf.Spec.SlicesInsertGrow
namespace Go.Proofs.YtgamhdbcejkllaaDoor
open Go.RowKit Go.Lib

/-- a copy of elements of k cells -/
theorem run_copy_k {P : Program} (w : World) (dT sT ty elem : TypeId) (k b o dLen dCap : Nat) (a : Addr) (sLen sCap m : Nat) (cs : List Value)
    (hu : P.underlying dT = some (.slice elem)) (hs : (P.info? elem).map (·.size) = some k) (hm : Nat.min sLen dLen = m) (hn : cs.length = m * k)
    (hsrc : ∀ j v, cs[j]? = some v → w.cell? (a.add j) = some v) (hc : ∀ j, j < cs.length → (w.cell? ⟨b, o + j, none⟩).isSome = true) (hf : ∀ j, j < cs.length → w.frozen? ⟨b, o + j, none⟩ = false) (h1 : ∀ v ∈ cs, v.oneCell' = true) :
    (Builtin.copy_ #[dT, sT] ty #[.slice (some ⟨b, o, none⟩) dLen dCap, .slice (some a) sLen sCap]).run P w = .ok (goInt m) (w.setCells b o cs) := by
  have hl := run_loadCells_list (P := P) w a cs hsrc
  have hst := run_storeCells_cells (P := P) b o cs 0 w (by simpa using hc) (by simpa using hf) h1
  cases hq : P.info? elem with
  | none => simp [hq] at hs
  | some i =>
    have hi : i.size = k := by simpa [hq] using hs
    simp [Builtin.copy_, run_underlying hu, Builtin.lenOf, Builtin.firstCells, sizeOf, typeInfo, hq, hi, hm, ← hn, hl, hst]
theorem block_setCells {t : TypeId} {fr : Nat × Nat} (b : Nat) : ∀ (vs : List Value) (o : Nat) (w : World) {cur : Array Value}, w.heap[b]? = some (.cells cur t fr) → ∃ cur' : Array Value, (w.setCells b o vs).heap[b]? = some (.cells cur' t fr) ∧ cur'.size = cur.size
  | [], _, _, cur, h => ⟨cur, h, rfl⟩
  | v :: r, o, w, cur, h => by
    rw [World.setCells]
    obtain ⟨c, h1, h2⟩ := block_setCells b r (o + 1) _ (block_set (i := o) h v)
    exact ⟨c, h1, by rw [h2]; simp⟩
theorem heap_setCells_other (b : Nat) {j : Nat} (hj : j ≠ b) : ∀ (vs : List Value) (o : Nat) (w : World), (w.setCells b o vs).heap[j]? = w.heap[j]?
  | [], _, _ => rfl
  | v :: r, o, w => by rw [World.setCells, heap_setCells_other b hj r]; exact RowKit.Below.heap_setCell _ _ _ _ hj
theorem size_setCells (b : Nat) : ∀ (vs : List Value) (o : Nat) (w : World), (w.setCells b o vs).heap.size = w.heap.size
  | [], _, _ => rfl
  | v :: r, o, w => by rw [World.setCells, size_setCells b r]; simp [World.setCell]
theorem RowFn.of_cells {α : Type} {w : World} {g : Nat} {t : TypeId} {size n : Nat} {cells : α → List Value} {X : Nat → α} {cur : Array Value} (h : w.heap[g]? = some (.cells cur t (0, 0))) (hs : n * size ≤ cur.size)
    (hc : ∀ p, p < n → ∀ c u, (cells (X p))[c]? = some u → w.cell? ⟨g, p * size + c, none⟩ = some u) : RowFn w g t size n cells X :=
  ⟨cur, h, hs, fun p hp c u hu => by have := hc p hp c u hu; rwa [Lib.cell_of_heap h] at this⟩
def insFn {α : Type} (X : Nat → α) (i : Nat) (h : α) (p : Nat) : α := if p < i then X p else if p = i then h else X (p - 1)
/-- the cells of the first n elements -/
def rowOf {α : Type} (cells : α → List Value) (X : Nat → α) (n : Nat) : List Value := ((List.range n).map X).flatMap cells
section
variable {α : Type} {cells : α → List Value} {X : Nat → α} {n size : Nat}
theorem rowOf_length (hs : ∀ x, (cells x).length = size) : (rowOf cells X n).length = n * size := by rw [rowOf, flat_len hs]; simp
theorem rowOf_at (hs : ∀ x, (cells x).length = size) {p : Nat} (hp : p < n) {c : Nat} {u : Value} (hu : (cells (X p))[c]? = some u) : (rowOf cells X n)[p * size + c]? = some u :=
  flat_at hs _ p (X p) c u (by simp [hp]) hu
theorem rowOf_cell (hs : ∀ x, (cells x).length = size) {w : World} {g : Nat} {t : TypeId} (h : RowFn w g t size n cells X) : ∀ j v, (rowOf cells X n)[j]? = some v → w.cell? ⟨g, j, none⟩ = some v := fun j v hj => by
  obtain ⟨p, c, x, e, h1, h2⟩ := flat_split hs _ j v hj
  simp only [List.getElem?_map, Option.map_eq_some_iff] at h1
  obtain ⟨p', h1, rfl⟩ := h1
  have hp : p < n := by have := (List.getElem?_eq_some_iff.1 h1).1; simpa using this
  have e2 : p' = p := by simpa [hp] using h1.symm
  subst e2
  rw [e]; exact h.cell hp h2
/-- the element set in, and those behind it shifted: what the cells are -/
theorem ins_cells (hs : ∀ x, (cells x).length = size) {w : World} {b i : Nat} {h : α} (hi : i ≤ n) (hold : ∀ j v, ((rowOf cells X n).take (i * size))[j]? = some v → w.cell? ⟨b, j, none⟩ = some v) (hsome : ∀ j, j < (n + 1) * size → (w.cell? ⟨b, j, none⟩).isSome = true)
    {w' : World} (hw : (∀ x, w'.cell? x = ((w.setCells b ((i + 1) * size) ((rowOf cells X n).drop (i * size))).setCells b (i * size) (cells h)).cell? x) ∨ ∀ x, w'.cell? x = ((w.setCells b (i * size) (cells h)).setCells b ((i + 1) * size) ((rowOf cells X n).drop (i * size))).cell? x) :
    ∀ p, p < n + 1 → ∀ c u, (cells (insFn X i h p))[c]? = some u → w'.cell? ⟨b, p * size + c, none⟩ = some u := by
  intro p hp c u hu
  have hc : c < size := by rw [← hs (insFn X i h p)]; exact (List.getElem?_eq_some_iff.1 hu).1
  have hl := rowOf_length (n := n) (X := X) hs
  have hdl : ((rowOf cells X n).drop (i * size)).length = n * size - i * size := by rw [List.length_drop, hl]
  have hin : i * size ≤ n * size := Nat.mul_le_mul_right _ hi
  have e1 : (i + 1) * size = i * size + size := Nat.succ_mul _ _
  have e2 : (n + 1) * size = n * size + size := Nat.succ_mul _ _
  have hch := hs h
  rcases Nat.lt_trichotomy p i with hpi | rfl | hpi
  · have h3 : p * size + c < i * size := by
      have : (p + 1) * size ≤ i * size := Nat.mul_le_mul_right _ hpi
      rw [Nat.succ_mul] at this; omega
    have h4 : w'.cell? ⟨b, p * size + c, none⟩ = w.cell? ⟨b, p * size + c, none⟩ := by
      rcases hw with hw | hw
      · rw [hw, World.cell?_setCells_out _ _ _ _ _ (fun _ _ => Or.inl (by simpa using h3)), World.cell?_setCells_out _ _ _ _ _ (fun _ _ => Or.inl (by simp only; omega))]
      · rw [hw, World.cell?_setCells_out _ _ _ _ _ (fun _ _ => Or.inl (by simp only; omega)), World.cell?_setCells_out _ _ _ _ _ (fun _ _ => Or.inl (by simpa using h3))]
    rw [h4]
    refine hold _ _ ?_
    rw [List.getElem?_take_of_lt h3]
    exact rowOf_at hs (by omega) (by rw [insFn, if_pos hpi] at hu; exact hu)
  · rw [insFn, if_neg (by omega), if_pos rfl] at hu
    have hcu : (cells h)[c]'(by omega) = u := (List.getElem?_eq_some_iff.1 hu).2
    rcases hw with hw | hw
    · rw [hw, World.cell?_setCells_in b (cells h) _ _ (fun j hj => isSome_setCells b _ _ _ (fun t ht => hsome _ (by omega)) _ (hsome _ (by omega))) c (by omega), hcu]
    · rw [hw, World.cell?_setCells_out _ _ _ _ _ (fun _ _ => Or.inl (by simp only; omega)), World.cell?_setCells_in b (cells h) _ _ (fun j hj => hsome _ (by omega)) c (by omega), hcu]
  · rw [insFn, if_neg (by omega), if_neg (by omega)] at hu
    obtain ⟨q, rfl⟩ : ∃ q, p = i + 1 + q := ⟨p - (i + 1), by omega⟩
    have e3 : (i + 1 + q) * size + c = (i + 1) * size + (q * size + c) := by rw [Nat.add_mul]; omega
    have hq : (q + 1) * size ≤ (n - i) * size := Nat.mul_le_mul_right _ (by omega)
    rw [Nat.succ_mul, Nat.sub_mul] at hq
    have hqd : q * size + c < ((rowOf cells X n).drop (i * size)).length := by omega
    have h5 : ((rowOf cells X n).drop (i * size))[q * size + c]'hqd = u := by
      have h6 := rowOf_at (n := n) hs (p := i + q) (by omega) (c := c) (u := u) (by rw [show i + q = i + 1 + q - 1 by omega]; exact hu)
      rw [List.getElem_drop]
      have h7 : i * size + (q * size + c) = (i + q) * size + c := by rw [Nat.add_mul]; omega
      simp only [h7]
      exact (List.getElem?_eq_some_iff.1 h6).2
    rw [e3]
    rcases hw with hw | hw
    · rw [hw, World.cell?_setCells_out _ _ _ _ _ (fun _ _ => Or.inr (by simp only; omega)), World.cell?_setCells_in b _ _ _ (fun j hj => hsome _ (by omega)) _ hqd, h5]
    · rw [hw, World.cell?_setCells_in b _ _ _ (fun j hj => isSome_setCells b _ _ _ (fun t ht => hsome _ (by omega)) _ (hsome _ (by omega))) _ hqd, h5]
end
theorem below_setCells' {B b : Nat} {a : World} (hb : B ≤ b) : ∀ (vs : List Value) (o : Nat) {w : World}, Below B a w → Below B a (w.setCells b o vs)
  | [], _, _, h => h
  | v :: r, o, w, h => by rw [World.setCells]; exact below_setCells' hb r (o + 1) (h.setCell (p := ⟨b, o, none⟩) hb v)
theorem holdOne (x : HoldD) : ∀ v ∈ x.cells, v.oneCell' = true := fun v hv => by simp [HoldD.cells] at hv; rcases hv with rfl | rfl | rfl | rfl <;> rfl
theorem rowOne (X : Nat → HoldD) (n : Nat) : ∀ v ∈ rowOf HoldD.cells X n, v.oneCell' = true := fun v hv => by
  obtain ⟨x, _, hx⟩ := List.mem_flatMap.1 hv
  exact holdOne x v hx
/-- what the insertion of a hold gives -/
def Inserted (X : Nat → HoldD) (n i : Nat) (hd : HoldD) (g : Nat) (w : World) (e : Ending) (w' : World) : Prop :=
  ∃ g' cap', e = .returned (.slice (some ⟨g', 0, none⟩) (n + 1) cap') ∧ (g' = g ∨ g' = w.heap.size) ∧ n + 1 ≤ cap' ∧ cap' ≤ maxLen ∧ RowFn w' g' 47 4 (n + 1) HoldD.cells (insFn X i hd) ∧
    (∀ j, j < w.heap.size → j ≠ g → w'.heap[j]? = w.heap[j]?) ∧ ∀ B, B ≤ g → B ≤ w.heap.size → Below B w w'
set_option maxRecDepth 100000 in
set_option maxHeartbeats 4000000 in
theorem insertH_room (X : Nat → HoldD) (n g cap i vb : Nat) (hd : HoldD) (hin : i < n) (hn : n < 10) (hr : n + 1 ≤ cap) (hcm : cap ≤ 9223372036854775807) (w : World) (h : RowFn w g 47 4 n HoldD.cells X)
    (hroom : ∃ cur : Array Value, w.heap[g]? = some (.cells cur 47 (0, 0)) ∧ cur.size = cap * 4) (hv : w.heap[vb]? = some (.cells #[.string hd.block, .int .i64 hd.pulls, .int .i64 hd.num, .int .i64 hd.den] 47 (0, 0))) (hne : vb ≠ g) :
    Calls Tryd.prog 31 #[.slice (some ⟨g, 0, none⟩) n cap, .int .i64 i, .slice (some ⟨vb, 0, none⟩) 1 1] w (Inserted X n i hd g w) := by
  obtain ⟨cur, hg, hcs⟩ := hroom
  obtain ⟨i0, hi0, hz0, hz1, hz2⟩ := info_parts infoHold
  have hsz : (Tryd.prog.info? 47).map (·.size) = some 4 := by rw [hi0]; simp [hz1]
  have hov : ∀ lb cb, (callFunc 49 #[.slice (some ⟨vb, 0, none⟩) 1 1, .slice (some ⟨g, (i + 1) * 4, none⟩) lb cb]).run Tryd.prog w = .ok (.value (.bool false)) w := fun lb cb => by
    rw [run_callFunc_extern Tryd.func49 (by kernel_rfl) (by kernel_rfl) (by kernel_rfl) (e := Extern.SlicesOverlaps.overlaps #[38, 38] #[4]) (by kernel_rfl),
      Lib.run_overlaps_apart w 38 4 47 Tryd.underlying38 4 (fun w => by simp [Go.sizeOf, typeInfo, hi0, hz1]) ⟨vb, 0, none⟩ ⟨g, (i + 1) * 4, none⟩ 1 1 lb cb hne 47 47 4 (cap * 4) (by simp [World.shape?, hv]) (by simp [World.shape?, hg, hcs]) (by omega) (block_unfrozen hv 0) (block_unfrozen hv 4)]
    rfl
  have HC : ∀ x : HoldD, x.cells.length = 4 := fun _ => rfl
  have hl := rowOf_length (n := n) (X := X) HC
  obtain ⟨ROW, hROW⟩ : ∃ ROW, ROW = rowOf HoldD.cells X n := ⟨_, rfl⟩
  have hcell := rowOf_cell HC h
  have h1r := rowOne X n
  rw [← hROW] at hl hcell h1r
  have hdl : (ROW.drop (i * 4)).length = (n - i) * 4 := by rw [List.length_drop, hl, Nat.sub_mul]
  have hsome : ∀ j, j < (n + 1) * 4 → (w.cell? ⟨g, j, none⟩).isSome = true := fun j hj => by
    have : (n + 1) * 4 ≤ cap * 4 := Nat.mul_le_mul_right _ hr
    rw [Lib.cell_of_heap hg, Array.getElem?_eq_getElem (by omega)]; rfl
  have hcp1 : ∀ ty dc sc, (Builtin.copy_ #[38, 38] ty #[.slice (some ⟨g, (i + 1) * 4, none⟩) (n - i) dc, .slice (some ⟨g, i * 4, none⟩) (n + 1 - i) sc]).run Tryd.prog w.drew = .ok (goInt (n - i : Nat)) (w.drew.setCells g ((i + 1) * 4) (ROW.drop (i * 4))) := fun ty dc sc =>
    run_copy_k w.drew _ _ ty 47 4 g ((i + 1) * 4) _ dc ⟨g, i * 4, none⟩ _ sc (n - i) (ROW.drop (i * 4)) Tryd.underlying38 hsz (by simp only [Nat.min_def]; split <;> omega) hdl
      (fun j v hj => by rw [Addr.add_lit]; rw [List.getElem?_drop] at hj; exact hcell _ v hj)
      (fun j hj => hsome _ (by omega)) (fun j _ => block_unfrozen hg _) (fun v hv => h1r v (List.mem_of_mem_drop hv))
  have hcp2 : ∀ (W : World), (∀ x, W.cell? x = (w.drew.setCells g ((i + 1) * 4) (ROW.drop (i * 4))).cell? x) → (∀ x, W.frozen? x = (w.drew.setCells g ((i + 1) * 4) (ROW.drop (i * 4))).frozen? x) → ∀ ty dc, (Builtin.copy_ #[38, 38] ty #[.slice (some ⟨g, i * 4, none⟩) (n + 1 - i) dc, .slice (some ⟨vb, 0, none⟩) 1 1]).run Tryd.prog W = .ok (goInt 1) (W.setCells g (i * 4) hd.cells) := fun W hWc hWf ty dc =>
    run_copy_k W _ _ ty 47 4 g (i * 4) _ dc ⟨vb, 0, none⟩ 1 1 1 hd.cells Tryd.underlying38 hsz (by simp only [Nat.min_def]; split <;> omega) rfl
      (fun j v hj => by
        rw [Addr.add_lit, hWc, World.cell?_setCells_out _ _ _ _ _ (fun h _ => absurd h hne)]
        show w.cell? _ = _
        rw [Lib.cell_of_heap hv]; simpa [HoldD.cells] using hj)
      (fun j hj => by
        rw [hWc]
        exact isSome_setCells g _ _ w.drew (fun t ht => hsome _ (by rw [hdl, Nat.sub_mul] at ht; omega)) _ (hsome _ (by have : hd.cells.length = 4 := rfl; omega)))
      (fun j _ => by rw [hWf, World.frozen?_setCells]; exact block_unfrozen hg _) (holdOne hd)
  have hz2' : ¬ ((i : Int) = (n : Int)) := by omega
  have hz3 : ¬ ((cap : Int) < (n : Int) + 1) := by omega
  obtain ⟨W1, hW1⟩ : ∃ W1, W1 = w.drew.setCells g ((i + 1) * 4) (ROW.drop (i * 4)) := ⟨_, rfl⟩
  have HG := hide hg
  rw [← hW1] at hcp1 hcp2
  have HFIN := hide (show Inserted X n i hd g w (.returned (.slice (some ⟨g, 0, none⟩) (n + 1) cap)) ((w.drew.setCells g ((i + 1) * 4) ((rowOf HoldD.cells X n).drop (i * 4))).setCells g (i * 4) hd.cells) from by
    have hg' : w.drew.heap[g]? = some (.cells cur 47 (0, 0)) := hg
    obtain ⟨c1, k1, k2⟩ := block_setCells g ((rowOf HoldD.cells X n).drop (i * 4)) ((i + 1) * 4) w.drew hg'
    obtain ⟨c2, k3, k4⟩ := block_setCells g hd.cells (i * 4) _ k1
    refine ⟨g, cap, rfl, Or.inl rfl, hr, by unfold maxLen; omega, RowFn.of_cells k3 (by have := Nat.mul_le_mul_right 4 hr; omega) (ins_cells HC (w := w.drew) (by omega) (fun j v hj => ?_) hsome (Or.inl fun _ => rfl)), fun j _ hj => ?_, fun B hB hB2 => ?_⟩
    · rw [hROW] at hcell
      rw [List.getElem?_take] at hj
      split at hj
      · exact hcell j v hj
      · cases hj
    · rw [heap_setCells_other g hj, heap_setCells_other g hj]; rfl
    · exact below_setCells' hB _ _ (below_setCells' hB _ _ ((Below.refl B w).drew)))
  clear hg hcs hsome hdl
  have HR := hide hr
  go_enter Tryd.func31, Tryd.ntmps31
  have hw1 : IntKind.i64.wrap ((i : Int) + 1) = (i : Int) + 1 := by rw [IntKind.wrap_i64]; omega
  have hb1 : (0 : Int) ≤ (i : Int) + 1 := by omega
  have htn : ((i : Int) + 1).toNat = i + 1 := by omega
  have hb2 : ¬ (cap = i + 1) := by omega
  have hb4 : ¬ (cap = i) := by omega
  have hin2 : i ≤ n := by omega
  have hin3 : (i : Int) ≤ (n : Int) + 1 := by omega
  have mixed : Tryd.prog.follows .mixedOrders = true := by kernel_rfl
  go_wp2_with (simp only [hov])
  go_region_law_o (refine step_copy_runI rfl _ _ 38 38 rfl _ _ (by simp [Act.eval, Act.put]) (by simp [Act.eval, Act.put]) (hcp1 _ _ _) ?_)
  go_wp2_with (at_builtin; refine wpList_copy_runI _ rfl _ _ 38 38 rfl _ _ rfl rfl (hcp2 _ (fun _ => rfl) (fun _ => rfl) _ _) ?_)
  go_ret
  exact HFIN.out
theorem drew_setCells (b : Nat) : ∀ (vs : List Value) (o : Nat) (w : World), w.drew.setCells b o vs = (w.setCells b o vs).drew
  | [], _, _ => rfl
  | v :: r, o, w => by rw [World.setCells, World.setCells, ← drew_setCells b r]; rfl
set_option maxRecDepth 100000 in
set_option maxHeartbeats 4000000 in
theorem insertH_grow (X : Nat → HoldD) (n g cap i vb : Nat) (hd : HoldD) (hin : i < n) (hn : n < 10) (hnc : n ≤ cap) (hr : cap < n + 1) (w : World) (h : RowFn w g 47 4 n HoldD.cells X)
    (hv : w.heap[vb]? = some (.cells #[.string hd.block, .int .i64 hd.pulls, .int .i64 hd.num, .int .i64 hd.den] 47 (0, 0))) :
    Calls Tryd.prog 31 #[.slice (some ⟨g, 0, none⟩) n cap, .int .i64 i, .slice (some ⟨vb, 0, none⟩) 1 1] w (Inserted X n i hd g w) := by
  obtain ⟨i0, hi0, hz0, hzs, hzb⟩ := info_parts infoHold
  have hsz : (Tryd.prog.info? 47).map (·.size) = some 4 := by rw [hi0]; simp [hzs]
  have HC : ∀ x : HoldD, x.cells.length = 4 := fun _ => rfl
  have hl := rowOf_length (n := n) (X := X) HC
  have hcell := rowOf_cell HC h
  have h1r := rowOne X n
  obtain ⟨L, hL⟩ : ∃ L, L = rowOf HoldD.cells X n := ⟨_, rfl⟩
  rw [← hL] at hl hcell h1r
  have hdl : (L.drop (i * 4)).length = (n - i) * 4 := by rw [List.length_drop, hl, Nat.sub_mul]
  have hgw : g < w.heap.size := h.lt
  have hvw : vb < w.heap.size := (Array.getElem?_eq_some_iff.1 hv).1
  have hold : (Builtin.firstCells i0.size i (.slice (some ⟨g, 0, none⟩) i cap)).run Tryd.prog w.drew = .ok (L.take (i * 4)).toArray w.drew := by
    rw [hzs]
    exact run_firstCells_some w.drew 4 i ⟨g, 0, none⟩ i cap (L.take (i * 4)) (by rw [List.length_take, hl]; have := Nat.mul_le_mul_right 4 (Nat.le_of_lt hin); omega) (fun j v hj => by
      rw [Addr.add_lit, Nat.zero_add]
      rw [List.getElem?_take] at hj
      split at hj
      · exact hcell j v hj
      · cases hj)
  have hik : i + (n + 1 - i) = n + 1 := by omega
  have hkk : (n : Int) + 1 - (i : Int) = ((n + 1 - i : Nat) : Int) := by omega
  obtain ⟨Z, hZ⟩ : ∃ Z : Array Value, Z = (Value.agg #[.string ⟨#[]⟩, .int .i64 0, .int .i64 0, .int .i64 0]).cells := ⟨_, rfl⟩
  have hZs : Z.size = 4 := by rw [hZ]; rfl
  have hrz : ∀ ty, (Builtin.append_ #[38, 3] ty #[.slice (some ⟨g, 0, none⟩) i cap, .int .i64 ((n : Int) + 1 - (i : Int))]).run Tryd.prog w =
      .ok (.slice (some ⟨w.heap.size, 0, none⟩) (n + 1) (grownCap w (n + 1) cap 47)) (w.drew.alloc (.cells ((L.take (i * 4)).toArray ++ Builtin.zeroCells Z (n + 1 - i) ++ Builtin.zeroCells Z (grownCap w (n + 1) cap 47 - (n + 1))) 47)) := fun ty => by
    have h := Lib.run_append_grow_zeros w 38 3 ty 47 i0 _ .i64 .i64 Tryd.underlying38 Tryd.underlying3 hi0 hz0 (some ⟨g, 0, none⟩) i cap (L.take (i * 4)) hold (n + 1 - i) (by omega) (by omega) (by omega) (by omega) (by rw [hzb]; omega) (by rw [hzb, hik]; exact growslice_fits hr (by omega))
    rw [hik, ← hZ] at h
    rw [hkk]
    exact h
  have hGn : n + 1 ≤ grownCap w (n + 1) cap 47 := grownCap_ge w _ _ _
  have hGm : grownCap w (n + 1) cap 47 ≤ maxLen := grownCap_le_maxLen w (n + 1) cap 47 (by unfold maxLen; omega)
  generalize grownCap w (n + 1) cap 47 = G at *
  obtain ⟨ROW, hROW⟩ : ∃ ROW : Array Value, ROW = (L.take (i * 4)).toArray ++ Builtin.zeroCells Z (n + 1 - i) ++ Builtin.zeroCells Z (G - (n + 1)) := ⟨_, rfl⟩
  rw [← hROW] at hrz
  have hzc : ∀ k, (Builtin.zeroCells Z k).size = k * 4 := fun k => by simp [Builtin.zeroCells, hZs]
  have hRl : (n + 1) * 4 ≤ ROW.size := by
    rw [hROW, Array.size_append, Array.size_append, hzc, hzc, List.size_toArray, List.length_take, hl]
    omega
  have hRt : ∀ j v, (L.take (i * 4))[j]? = some v → ROW[j]? = some v := fun j v hj => by
    have hjl := (List.getElem?_eq_some_iff.1 hj).1
    rw [hROW, Array.getElem?_append_left (by rw [Array.size_append, List.size_toArray]; omega), Array.getElem?_append_left (by rw [List.size_toArray]; exact hjl), List.getElem?_toArray]
    exact hj
  obtain ⟨W1, hW1⟩ : ∃ W1, W1 = w.drew.alloc (.cells ROW 47) := ⟨_, rfl⟩
  have hW1' : W1 = (w.alloc (.cells ROW 47)).drew := hW1
  have hNb : W1.heap[w.heap.size]? = some (.cells ROW 47 (0, 0)) := by rw [hW1]; exact heap_alloc_new w.drew _
  have hsome : ∀ j, j < (n + 1) * 4 → (W1.cell? ⟨w.heap.size, j, none⟩).isSome = true := fun j hj => by
    rw [Lib.cell_of_heap hNb, Array.getElem?_eq_getElem (by omega)]; rfl
  have hBl : Below w.heap.size w W1 := by rw [hW1']; exact ((Below.refl _ _).alloc (Nat.le_refl _) _).drew
  have hne : vb ≠ w.heap.size := by omega
  have hneg : g ≠ w.heap.size := by omega
  have hcpA : ∀ (W : World), (∀ x, W.cell? x = W1.cell? x) → (∀ x, W.frozen? x = W1.frozen? x) → ∀ ty dc, (Builtin.copy_ #[38, 38] ty #[.slice (some ⟨w.heap.size, i * 4, none⟩) (n + 1 - i) dc, .slice (some ⟨vb, 0, none⟩) 1 1]).run Tryd.prog W = .ok (goInt 1) (W.setCells w.heap.size (i * 4) hd.cells) := fun W hWc hWf ty dc =>
    run_copy_k W _ _ ty 47 4 w.heap.size (i * 4) _ dc ⟨vb, 0, none⟩ 1 1 1 hd.cells Tryd.underlying38 hsz (by simp only [Nat.min_def]; split <;> omega) rfl
      (fun j v hj => by
        rw [Addr.add_lit, hWc]
        refine (hBl.cell (p := ⟨vb, 0 + j, none⟩) hvw).trans ?_
        rw [Lib.cell_of_heap hv]; simpa [HoldD.cells] using hj)
      (fun j hj => by rw [hWc]; exact hsome _ (by have : hd.cells.length = 4 := rfl; omega))
      (fun j _ => by rw [hWf]; exact block_unfrozen hNb _) (holdOne hd)
  have hcpB : ∀ (W : World), (∀ x, W.cell? x = (W1.setCells w.heap.size (i * 4) hd.cells).cell? x) → (∀ x, W.frozen? x = (W1.setCells w.heap.size (i * 4) hd.cells).frozen? x) → ∀ ty dc sc, (Builtin.copy_ #[38, 38] ty #[.slice (some ⟨w.heap.size, (i + 1) * 4, none⟩) (n - i) dc, .slice (some ⟨g, i * 4, none⟩) (n - i) sc]).run Tryd.prog W = .ok (goInt (n - i : Nat)) (W.setCells w.heap.size ((i + 1) * 4) (L.drop (i * 4))) := fun W hWc hWf ty dc sc =>
    run_copy_k W _ _ ty 47 4 w.heap.size ((i + 1) * 4) _ dc ⟨g, i * 4, none⟩ _ sc (n - i) (L.drop (i * 4)) Tryd.underlying38 hsz (by simp only [Nat.min_def]; split <;> omega) hdl
      (fun j v hj => by
        rw [Addr.add_lit, hWc, World.cell?_setCells_out _ _ _ _ _ (fun h _ => absurd h hneg)]
        refine (hBl.cell (p := ⟨g, i * 4 + j, none⟩) hgw).trans ?_
        rw [List.getElem?_drop] at hj; exact hcell _ v hj)
      (fun j hj => by rw [hWc]; exact isSome_setCells _ _ _ W1 (fun t ht => hsome _ (by have : hd.cells.length = 4 := rfl; omega)) _ (hsome _ (by rw [hdl, Nat.sub_mul] at hj; omega)))
      (fun j _ => by rw [hWf, World.frozen?_setCells]; exact block_unfrozen hNb _) (fun v hv => h1r v (List.mem_of_mem_drop hv))
  have HFIN := hide (show ∀ W', W' = (W1.setCells w.heap.size (i * 4) hd.cells).setCells w.heap.size ((i + 1) * 4) (L.drop (i * 4)) ∨ W' = ((W1.setCells w.heap.size (i * 4) hd.cells).setCells w.heap.size ((i + 1) * 4) (L.drop (i * 4))).drew → Inserted X n i hd g w (.returned (.slice (some ⟨w.heap.size, 0, none⟩) (n + 1) G)) W' from fun W' hW' => by
    obtain ⟨c1, k1, k2⟩ := block_setCells w.heap.size hd.cells (i * 4) W1 hNb
    obtain ⟨c2, k3, k4⟩ := block_setCells w.heap.size (L.drop (i * 4)) ((i + 1) * 4) _ k1
    have key : Inserted X n i hd g w (.returned (.slice (some ⟨w.heap.size, 0, none⟩) (n + 1) G)) ((W1.setCells w.heap.size (i * 4) hd.cells).setCells w.heap.size ((i + 1) * 4) (L.drop (i * 4))) := by
      refine ⟨_, G, rfl, Or.inr rfl, hGn, hGm, RowFn.of_cells k3 (by omega) (ins_cells HC (w := W1) (by omega) (fun j v hj => ?_) hsome (Or.inr fun _ => by rw [hL])), fun j hj _ => ?_, fun B hB hB2 => ?_⟩
      · rw [Lib.cell_of_heap hNb]; rw [← hL] at hj; exact hRt j v hj
      · rw [heap_setCells_other _ (by omega), heap_setCells_other _ (by omega)]; exact hBl.block j hj
      · exact below_setCells' hB2 _ _ (below_setCells' hB2 _ _ (hBl.mono hB2))
    rcases hW' with rfl | rfl
    · exact key
    · obtain ⟨g', cap', e1, e2, e3, e4, e5, e6, e7⟩ := key
      exact ⟨g', cap', e1, e2, e3, e4, e5.drew, e6, fun B hB hB2 => (e7 B hB hB2).drew⟩)
  have hz2 : ¬ ((i : Int) = (n : Int)) := by omega
  have hz3 : (cap : Int) < (n : Int) + 1 := by omega
  have hw1 : IntKind.i64.wrap ((i : Int) + 1) = (i : Int) + 1 := by rw [IntKind.wrap_i64]; omega
  have hb1 : (0 : Int) ≤ (i : Int) + 1 := by omega
  have htn : ((i : Int) + 1).toNat = i + 1 := by omega
  have hG63 : G ≤ 9223372036854775807 := by unfold maxLen at hGm; omega
  have hGi : ¬ (G = i) := by omega
  have hGim : ¬ (G = i + 1) := by omega
  have hci : ¬ (cap = i) := by omega
  have hin2 : i ≤ n := by omega
  have hin3 : (i : Int) ≤ (n : Int) := by omega
  have hin4 : (i : Int) ≤ (n : Int) + 1 := by omega
  have mixed : Tryd.prog.follows .mixedOrders = true := by kernel_rfl
  have hE1 : ∀ x, ((w.alloc (.cells ROW 47)).drew).cell? x = W1.cell? x := fun x => by rw [hW1']
  have hE2 : ∀ x, ((w.alloc (.cells ROW 47)).drew).frozen? x = W1.frozen? x := fun x => by rw [hW1']
  clear hsome hold hkk hik hRl hRt hzc hROW hZ hZs hNb hBl hL hW1'
  subst hW1
  go_enter Tryd.func31, Tryd.ntmps31
  go_wp2_with (first
    | (at_builtin; refine Lib.wpList_append_run _ rfl _ _ _ _ rfl _ _ rfl rfl _ _ (hrz _) ?_)
    | (at_builtin; refine wpList_copy_runI _ rfl _ _ 38 38 rfl _ _ rfl rfl (hcpA _ hE1 hE2 _ _) ?_))
  have hF1 : ∀ x, (((w.alloc (.cells ROW 47)).drew.setCells w.heap.size (i * 4) hd.cells).drew).cell? x = ((w.drew.alloc (.cells ROW 47)).setCells w.heap.size (i * 4) hd.cells).cell? x := fun x => rfl
  have hF2 : ∀ x, (((w.alloc (.cells ROW 47)).drew.setCells w.heap.size (i * 4) hd.cells).drew).frozen? x = ((w.drew.alloc (.cells ROW 47)).setCells w.heap.size (i * 4) hd.cells).frozen? x := fun x => rfl
  go_region_law_o (refine step_copy_runI rfl _ _ 38 38 rfl (.slice (some ⟨w.heap.size, (i + 1) * 4, none⟩) (n - i) (G - (i + 1))) (.slice (some ⟨g, i * 4, none⟩) (n - i) (cap - i)) (by simp [Act.eval, Act.put]) (by simp [Act.eval, Act.put]) (hcpB _ hF1 hF2 3 (G - (i + 1)) (cap - i)) ?_)
  go_wp2
  go_ret
  exact HFIN.out _ (Or.inr (drew_setCells _ _ _ _))
/-- the insertion of a hold into a row of its own -/
theorem insertH_any (X : Nat → HoldD) (n g cap i vb : Nat) (hd : HoldD) (hin : i < n) (hn : n < 10) (hnc : n ≤ cap) (hcm : cap ≤ 9223372036854775807) (w : World) (h : RowFn w g 47 4 n HoldD.cells X)
    (hroom : ∃ cur : Array Value, w.heap[g]? = some (.cells cur 47 (0, 0)) ∧ cur.size = cap * 4) (hv : w.heap[vb]? = some (.cells #[.string hd.block, .int .i64 hd.pulls, .int .i64 hd.num, .int .i64 hd.den] 47 (0, 0))) (hne : vb ≠ g) :
    Calls Tryd.prog 31 #[.slice (some ⟨g, 0, none⟩) n cap, .int .i64 i, .slice (some ⟨vb, 0, none⟩) 1 1] w (Inserted X n i hd g w) := by
  by_cases hr : n + 1 ≤ cap
  · exact insertH_room X n g cap i vb hd hin hn hr hcm w h hroom hv hne
  · exact insertH_grow X n g cap i vb hd hin hn hnc (by omega) w h hv
end Go.Proofs.YtgamhdbcejkllaaDoor
