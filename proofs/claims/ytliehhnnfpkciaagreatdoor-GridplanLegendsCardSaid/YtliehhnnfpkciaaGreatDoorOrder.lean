/- house.Order: the numbers of the sets of a right house, by depth. -/
import Derived.Test.YtliehhnnfpkciaaGreatDoorHouseValid
import Derived.Test.YtliehhnnfpkciaaGreatDoorPlanSize
import Derived.Test.YtliehhnnfpkciaaGreatDoorInsLaw
import Derived.Test.YtliehhnnfpkciaaGreatDoorOwn
import Derived.Test.YtliehhnnfpkciaaGreatDoorShelf
import Derived.Lib.OwnBridge
import Derived.WalkSmall
import Derived.Lib.Hide
namespace Go.Proofs.YtliehhnnfpkciaaGreatDoor
open Go.RowKit

/-- the depth of set k -/
def dep (l : List SetD) (k : Nat) : Int := (l.map (·.depth)).getD k 0
theorem dep_of {l : List SetD} {k : Nat} {s : SetD} (h : l[k]? = some s) : dep l k = s.depth := by simp [dep, h]
theorem dep_bound {l : List SetD} (hz : Sized l) (k : Nat) : 0 ≤ dep l k ∧ dep l k ≤ 1048576 := by
  rcases Nat.lt_or_ge k l.length with h | h
  · rw [dep_of (List.getElem?_eq_getElem h)]
    have := hz _ (List.getElem_mem h)
    omega
  · simp [dep, List.getElem?_eq_none h]
/-- what the sort's question reads: the house's row of sets, and each depth -/
structure DepthsAt (w : World) (hb b off cap : Nat) (l : List SetD) : Prop where
  row : w.cell? ⟨hb, 2, none⟩ = some (.slice (some ⟨b, off, none⟩) l.length cap)
  cells : ∀ k, k < l.length → w.cell? ⟨b, off + k * 13 + 1, none⟩ = some (.int .i64 (dep l k))
theorem infoInts' : (Tryz.prog.info? 3).map (fun i => (i.zero, i.size, i.bytes)) = some (some (.int .i64 0), 1, 8) := by kernel_rfl
theorem enters_order1 : ∀ args w, (callFunc 68 args).run Tryz.prog w = .ok (.enter 68 args) w := entersOf Tryz.func68 (by kernel_rfl) rfl
set_option maxHeartbeats 1000000 in
theorem order1_any {l : List SetD} (hz : Sized l) {hb b off cap i k : Nat} (hi : i < l.length) (hk : k < l.length) (w : World) (h : DepthsAt w hb b off cap l) :
    Calls Tryz.prog 68 #[.int .i64 (i : Int), .int .i64 (k : Int), .pointer (some ⟨hb, 0, none⟩)] w fun e w' => e = .returned (.int .i64 (dep l i - dep l k)) ∧ ∃ q, w' = w.drewN q := by
  obtain ⟨a0, a1⟩ := dep_bound hz i
  obtain ⟨b0, b1⟩ := dep_bound hz k
  have c0 := h.row
  have c1 := h.cells i hi
  have c2 := h.cells k hk
  have i0 : (0 : Int) ≤ (i : Int) := by omega
  have i1 : (i : Int) < (l.length : Int) := by omega
  have k0 : (0 : Int) ≤ (k : Int) := by omega
  have k1 : (k : Int) < (l.length : Int) := by omega
  have hwr : IntKind.i64.wrap (dep l i - dep l k) = dep l i - dep l k := by rw [IntKind.wrap_i64]; omega
  clear h
  generalize dep l i = x at *
  generalize dep l k = y at *
  go_enter Tryz.func68, Tryz.ntmps68
  go_wp2_with fail
  go_quiet (fail)
  go_wp2
  go_ret
  exact ⟨rfl, _, rfl⟩
def encN {n : Nat} (x : Fin n) : Value := .int .i64 (x.val : Int)
theorem encN_one {n : Nat} : OneCell (encN (n := n)) := fun _ => rfl
/-- the answers of the sort's question in the worlds that the sort passes through -/
theorem order_reads {m : Nat} {l : List SetD} (hl : l.length = m + 1) (hz : Sized l) {hb b off cap g : Nat} (w : World) (h : DepthsAt w hb b off cap l) (h1 : hb < w.heap.size) (h2 : b < w.heap.size) (h3 : hb ≠ g) (h4 : b ≠ g) (size : Nat) :
    CmpReads Tryz.prog 68 #[.pointer (some ⟨hb, 0, none⟩)] (encN (n := m + 1)) (fun x y => dep l x.val - dep l y.val) g 0 size w := by
  intro n os dk hd x y
  have key : ∀ p : Addr, p.block ≠ g → p.block < w.heap.size → (sortWorld (encN (n := m + 1)) w g 0 n dk os).cell? p = w.cell? p := fun p hp hp2 => by
    unfold sortWorld
    rw [Sort.cell?_grow _ _ _ (by simpa using hp2), Sort.cell?_putRow_other _ _ _ _ _ _ (Or.inl hp)]
    rfl
  have hr : DepthsAt (sortWorld (encN (n := m + 1)) w g 0 n dk os) hb b off cap l := ⟨(key ⟨hb, 2, none⟩ h3 h1).trans h.row, fun k hk => (key ⟨b, off + k * 13 + 1, none⟩ h4 h2).trans (h.cells k hk)⟩
  exact order1_any hz (by rw [hl]; exact x.isLt) (by rw [hl]; exact y.isLt) _ hr
/-- a row of numbers, in memory -/
def NumsIn (w : World) (g : Nat) (l : List Nat) : Prop := ∃ cs fr, w.heap[g]? = some (.cells cs 3 fr) ∧ ∀ (j x : Nat), l[j]? = some x → cs[j]? = some (.int .i64 (x : Int))
theorem NumsIn.lt {w : World} {g : Nat} {l : List Nat} (h : NumsIn w g l) : g < w.heap.size := by obtain ⟨cs, fr, h1, _⟩ := h; exact (Array.getElem?_eq_some_iff.1 h1).1
theorem NumsIn.block {w w' : World} {g : Nat} {l : List Nat} (h : NumsIn w g l) (hb : ∀ (cs : Array Value) (fr : Nat × Nat), w.heap[g]? = some (.cells cs 3 fr) → w'.heap[g]? = some (.cells cs 3 fr)) : NumsIn w' g l := by
  obtain ⟨cs, fr, h1, h2⟩ := h
  exact ⟨cs, fr, hb cs fr h1, h2⟩
theorem NumsIn.below {w w' : World} {g : Nat} {l : List Nat} (h : NumsIn w g l) (hb : Below w.heap.size w w') : NumsIn w' g l := h.block fun _ _ h1 => (hb.block g (Array.getElem?_eq_some_iff.1 h1).1).trans h1
theorem NumsIn.cell {w : World} {g j x : Nat} {l : List Nat} (h : NumsIn w g l) (hx : l[j]? = some x) : w.cell? ⟨g, j, none⟩ = some (.int .i64 (x : Int)) := by
  obtain ⟨cs, fr, h1, h2⟩ := h
  rw [Lib.cell_of_heap h1]; exact h2 j x hx
theorem putRow_block {α : Type} [Inhabited α] (enc : α → Value) {w : World} {g : Nat} (d : Array α) {cur : Array Value} {t : TypeId} (hg : w.heap[g]? = some (.cells cur t (0, 0))) : (Sort.putRow enc w g 0 d).heap[g]? = some (.cells (Sort.putCells enc 0 d cur) t (0, 0)) := by
  simp [Sort.putRow, Sort.mapBlock, Array.getElem?_modify, hg, Sort.onCells]
def Sorts (l : List SetD) (g : Nat) (w : World) (e : Ending) (w' : World) : Prop := e = .returned (.tuple #[]) ∧ Below g w w' ∧ NumsIn w' g (orderE (dep l) l.length)
set_option maxHeartbeats 1000000 in
theorem ins_some {m : Nat} {l : List SetD} (hl : l.length = m + 1) (hm : m < 19) (hz : Sized l) {hb b off cap g gcap : Nat} (w : World) (h : DepthsAt w hb b off cap l) (h1 : hb < w.heap.size) (h2 : b < w.heap.size) (h3 : hb ≠ g) (h4 : b ≠ g)
    {cur : Array Value} (hg : w.heap[g]? = some (.cells cur 3 (0, 0))) (hH : Sort.Holds (encN (n := m + 1)) w g 0 (numsTo (m + 1)).toArray) :
    Calls Tryz.prog 123 #[.slice (some ⟨g, 0, none⟩) l.length gcap, .int .i64 0, .int .i64 (l.length : Int), .func (.func 68) #[] #[.pointer (some ⟨hb, 0, none⟩)]] w (Sorts l g w) := by
  have hd : (numsTo (m + 1)).toArray.size = m + 1 := by simp [numsTo_length]
  have hlt : ltOf (fun x y : Fin (m + 1) => dep l x.val - dep l y.val) = fun a b => decide (dep l a.val < dep l b.val) := by
    funext x y
    simp only [ltOf, decide_eq_decide]
    omega
  have key := Any.insertionSortCmpFunc_one Tryz.insL (encN (n := m + 1)) encN_one (fun x y => dep l x.val - dep l y.val) 68 #[.pointer (some ⟨hb, 0, none⟩)] g 0 gcap 0 (m + 1) (numsTo (m + 1)).toArray w enters_order1
    (order_reads hl hz w h h1 h2 h3 h4 _) hH (Nat.zero_le _) (by rw [hd]; exact Nat.le_refl _) (by rw [hd]; omega)
  rw [hd, hlt] at key
  rw [hl]
  refine Calls.mono key ?_
  rintro e w' ⟨he, q, rfl⟩
  have hs := sorted_order m (fun x : Fin (m + 1) => dep l x.val) (dep l) (fun _ => rfl)
  have hsz : (Sort.insertionSort (fun a b : Fin (m + 1) => decide (dep l a.val < dep l b.val)) (numsTo (m + 1)).toArray 0 (m + 1)).size = m + 1 := by
    have := congrArg List.length hs
    rw [List.length_map, orderE_length, Array.length_toList] at this
    exact this
  have hp := Sort.holds_putRow (encN (n := m + 1)) w g 0 _ (Sort.insertionSort (fun a b : Fin (m + 1) => decide (dep l a.val < dep l b.val)) (numsTo (m + 1)).toArray 0 (m + 1)) hH (by rw [hsz, hd])
  refine ⟨he, below_drewN (Lib.below_putRow (q := 0) (Below.refl g w) (Nat.le_refl g)) q, _, (0, 0), putRow_block (encN (n := m + 1)) _ hg, fun j x hx => ?_⟩
  rw [hl, ← hs, List.getElem?_map] at hx
  obtain ⟨y, hy, rfl⟩ := Option.map_eq_some_iff.1 hx
  have hj : j < m + 1 := by have := (List.getElem?_eq_some_iff.1 hy).1; rw [Array.length_toList, hsz] at this; exact this
  have h5 := (hp j (by rw [hsz]; exact hj)).1
  rw [Nat.zero_add, Lib.cell_of_heap (putRow_block (encN (n := m + 1)) _ hg)] at h5
  refine h5.trans ?_
  have h6 : (Sort.insertionSort (fun a b : Fin (m + 1) => decide (dep l a.val < dep l b.val)) (numsTo (m + 1)).toArray 0 (m + 1))[j]! = y := by
    obtain ⟨h7, h8⟩ := List.getElem?_eq_some_iff.1 hy
    rw [getElem!_pos _ j (by rw [hsz]; exact hj)]
    simpa using h8
  rw [h6]; rfl
set_option maxHeartbeats 1000000 in
theorem ins_none (p : Option Addr) (c : Nat) (w : World) (cf : Value) : Calls Tryz.prog 123 #[.slice p 0 c, .int .i64 0, .int .i64 0, cf] w (Gives w (.tuple #[])) := by
  go_enter Tryz.func123, Tryz.ntmps123
  go_wp2
  go_loopw [8, 9] (fun i _ wr => i = .int .i64 1 ∧ wr = w) (fun _ _ _ => 0)
  case atStart => exact ⟨rfl, rfl⟩
  case round =>
    obtain ⟨rfl, rfl⟩ := hrel
    go_wp2
    go_end0
    exact Gives.mk rfl (Below.refl _ _)
/-- a call that returns nothing and leaves a world with R -/
def Leaves (R : World → Prop) (e : Ending) (w' : World) : Prop := e = .returned (.tuple #[]) ∧ R w'
set_option maxHeartbeats 1000000 in
theorem stable_any (n : Nat) (hn : n < 20) (A : Value) (cf : Value) (w : World) (R : World → Prop) (hA : ∃ p gcap, A = .slice p n gcap)
    (key : Calls Tryz.prog 123 #[A, .int .i64 0, .int .i64 (n : Int), cf] w (Leaves R)) :
    Calls Tryz.prog 67 #[A, cf] w (Leaves R) := by
  have KEY := hide key
  have h1 : ¬ 20 ≤ n := by omega
  have h2 : ¬ 20 < n := by omega
  obtain ⟨p, gcap, rfl⟩ := hA
  clear key
  have st : Calls Tryz.prog 99 #[.slice p n gcap, .int .i64 (n : Int), cf] w (Leaves R) := by
    go_enter Tryz.func99, Tryz.ntmps99
    go_wp2
    go_loopw [7, 8] (fun a b wr => a = .int .i64 0 ∧ b = .int .i64 20 ∧ wr = w) (fun _ _ _ => 0)
    case atStart => exact ⟨rfl, rfl, rfl⟩
    case round =>
      obtain ⟨rfl, rfl, rfl⟩ := hrel
      go_wp2_with fail
      refine KEY.out.mono ?_
      rintro e w' ⟨rfl, hS⟩
      have HS := hide hS
      clear hS
      go_wp2
      go_loopw [6, 7, 8, 9] (fun s _ _ _ wr => s = .int .i64 20 ∧ wr = w') (fun _ _ _ _ _ => 0)
      case atStart => exact ⟨rfl, rfl⟩
      case round =>
        obtain ⟨rfl, rfl⟩ := hrel
        go_wp2
        go_end0
        exact ⟨rfl, HS.out⟩
  have ST := hide st
  clear st h1 h2 KEY
  go_enter Tryz.func67, Tryz.ntmps67
  go_wp2_with fail
  refine ST.out.mono ?_
  rintro e w' ⟨rfl, hS⟩
  have HS := hide hS
  clear hS
  go_wp2
  go_end0
  exact ⟨rfl, HS.out⟩
theorem map_next' {l : List Nat} {k : Nat} (h : k < l.length) : l.take (k + 1) = l.take k ++ [l[k]] := by rw [List.take_add_one, List.getElem?_eq_getElem h]; rfl
/-- a row of numbers that the call owns, and nothing below W has turned -/
structure NumSt (W : World) (v : Value) (xs : List Nat) (x : World) : Prop where
  own : x.ownsRow W.heap.size 3 1 v xs.length (xs.map fun n : Nat => Value.int .i64 (n : Int))
  bel : Below W.heap.size W x
theorem NumSt.start (W x : World) (h : Below W.heap.size W x) : NumSt W (.slice none 0 0) [] x := ⟨own_nil _ _ _ _, h⟩
theorem NumSt.append {W z u w' : World} {v v' : Value} {xs : List Nat} {n : Nat} (h : NumSt W v xs z) (hu : Below z.heap.size z u) (hown : w'.ownsRow W.heap.size 3 1 v' (xs.length + 1) (xs.map (fun n : Nat => Value.int .i64 (n : Int)) ++ [.int .i64 (n : Int)])) (hgr : u.grownBy w' v.ownBlock) : NumSt W v' (xs ++ [n]) w' := by
  have hb : Below W.heap.size z w' := Below.grown (hu.mono h.bel.size) hgr (Nat.le_trans h.bel.size hu.size) (own_owner h.own)
  refine ⟨?_, h.bel.trans hb⟩
  rw [List.length_append, List.map_append]
  exact hown
/-- what house.Order gives -/
def Ordered (l : List SetD) (w : World) (e : Ending) (w' : World) : Prop := ∃ A cap, e = .returned (.tuple #[.slice A l.length cap, .int .i64 0]) ∧ l.length ≤ cap ∧ cap ≤ maxLen ∧ Below w.heap.size w w' ∧ (0 < l.length → ∃ g, A = some ⟨g, 0, none⟩ ∧ NumsIn w' g (orderE (dep l) l.length))
theorem range_length (n : Nat) : (List.range n).length = n := by simp
set_option maxHeartbeats 4000000 in
set_option maxRecDepth 100000 in
theorem order_good (h : HouseD) (hok : h.ok) (hh : houseOk h = true) (h20 : h.sets.l.length < 20) (w : World) (B : Nat) (hB : B ≤ w.heap.size) (hat : HouseD.at_ w B h) :
    Calls Tryz.prog 41 #[.agg #[.string h.name, .int .i64 h.height, .slice h.sets.A h.sets.l.length h.sets.cap, .slice h.roofs.A h.roofs.l.length h.roofs.cap]] w (Ordered h.sets.l w) := by
  obtain ⟨W, hW, hWs, hWb, hWh⟩ := boxed w (.cells #[.string h.name, .int .i64 h.height, .slice h.sets.A h.sets.l.length h.sets.cap, .slice h.roofs.A h.roofs.l.length h.roofs.cap] 25)
  have hc := fun y : After W.heap.size W => HouseD.boxed hWh (by omega) y
  have HBD := hide fun y : After W.heap.size W => hWb.trans (y.below.mono (by omega))
  have hatW : HouseD.at_ W W.heap.size h := hat.to (hWb.mono hB) (by omega)
  have KV := hide (Gives.first (houseValid_any h hok W W.heap.size (Nat.le_refl _) hatW))
  rw [hh] at KV
  obtain ⟨i0, hi, hz0, hz1, hz2⟩ := info_parts infoInts'
  have HZ := hide (sized_of_ok hh)
  have HSB := hide hatW.sets
  have hm : h.sets.cap ≤ 9223372036854775807 := hat.sets.2.1
  have hlc : h.sets.l.length ≤ h.sets.cap := hat.sets.1
  have HW := hide hW
  have HWS := hide (show w.heap.size < W.heap.size by omega)
  have HHB := hide (show ∀ x : After W.heap.size W, x.val.cell? ⟨w.heap.size, 2, none⟩ = some (.slice h.sets.A h.sets.l.length h.sets.cap) from fun x => (hc x).2.2.1)
  clear hW hWs hWh hWb hat hatW hh hok
  obtain ⟨name, height, ⟨A, cap, l⟩, roofs⟩ := h
  simp only at *
  go_enter Tryz.func41, Tryz.ntmps41
  go_wp2_with (go_at_call 37; rw [← HW.out]; refine KV.out.mono ?_; rintro e w' ⟨rfl, y, rfl⟩)
  go_loopw [4, 5, 12] (fun u _ v wr => ∃ k : Nat, v = .int .i64 k ∧ k ≤ l.length ∧ Hid (NumSt W u (List.range k) wr)) (fun _ _ v _ => l.length - (intOf v).toNat)
  case atStart => exact ⟨0, rfl, Nat.zero_le _, hide (NumSt.start W _ (y.below))⟩
  case round =>
    obtain ⟨k, rfl, hk, st⟩ := hrel
    have hcw := hc ⟨_, st.out.bel⟩
    simp only at hcw
    by_cases hlt : k < l.length
    · have HLEN := hide (range_length k)
      go_wp2_with (at_builtin; refine Hid.out ?_)
      refine Lib.hid ?_
      refine wpList_append_own _ rfl _ _ 45 rfl W.heap.size 3 i0 (.int .i64 0) 1 8 Tryz.underlying45 hi hz0 hz1 hz2 rfl (by decide) _ _ _ rfl (st.out.own.alloc _) ⟨wr.heap.size, 0, none⟩ 1 1 [.int .i64 (k : Int)] rfl rfl (by simpa using cell_one_new wr _ _) (fun u hu => by simp at hu; subst hu; rfl) (by rw [HLEN.out]; unfold maxLen; omega) (by rw [HLEN.out]; omega) (by have := st.out.bel.size; simp; omega) ?_
      intro v4 w4 hown hgr _
      have HN := hide (NumSt.append st.out ((Below.refl _ _).alloc (Nat.le_refl _) _) hown hgr)
      rw [← List.range_succ] at HN
      clear hgr hown
      go_wp2
      exact ⟨⟨k + 1, by go_num, by omega, HN⟩, by simp [intOf]; omega⟩
    · obtain rfl : k = l.length := by omega
      have hcut : ∃ p c, u4 = .slice p l.length c ∧ l.length ≤ c ∧ c ≤ maxLen := by
        rcases st.out.own.2 with ⟨h1, h2⟩ | ⟨g, c, cur, h1, _, _, h2, h3, _⟩
        · rw [range_length] at h2
          exact ⟨none, 0, by rw [h1, h2], by omega, by decide⟩
        · rw [range_length] at h1 h2
          exact ⟨_, c, h1, h2, h3⟩
      rcases Nat.eq_zero_or_pos l.length with h0 | hp
      · obtain ⟨p, c, rfl, hc1, hc2⟩ := hcut
        have KS := hide (stable_any l.length h20 (.slice p l.length c) (.func (.func 68) #[] #[.pointer (some ⟨w.heap.size, 0, none⟩)]) wr (fun w' => Below wr.heap.size wr w') ⟨_, _, rfl⟩ (by rw [h0]; exact ins_none p c wr _))
        have HST := hide st.out.bel
        have H0 := hide h0
        clear st h0
        go_wp2_with fail
        refine KS.out.mono ?_
        rintro e w' ⟨rfl, hS⟩
        have HS := hide hS
        clear hS
        go_wp2
        go_ret2
        have hb' : Below W.heap.size W w' := HST.out.trans (HS.out.mono HST.out.size)
        exact ⟨p, c, rfl, hc1, hc2, HBD.out ⟨w', hb'⟩, fun h => absurd h (by have := H0.out; omega)⟩
      · obtain ⟨m, hl⟩ : ∃ m, l.length = m + 1 := ⟨l.length - 1, by omega⟩
        have hne : u4 ≠ .slice none 0 0 := fun e => by
          obtain ⟨p, c, h1, _⟩ := hcut
          rw [h1] at e
          injection e with _ e _
          omega
        have hown := st.out.own
        rw [range_length, hl] at hown
        have e1 : (List.range (m + 1)).map (fun n : Nat => Value.int .i64 (n : Int)) = (numsTo (m + 1)).map encN := by
          rw [← numsTo_val, List.map_map]; rfl
        rw [e1] at hown
        have hrow := hown.2
        obtain ⟨g, gcap, rfl, hgW, hg0, hc1, hc2, _, hH⟩ := Lib.holds_of_ownsRow hown hne
        obtain ⟨cur, hg⟩ : ∃ cur, wr.heap[g]? = some (.cells cur 3 (0, 0)) := by
          rcases hrow with ⟨h1, _⟩ | ⟨g', c', cur, h1, _, h2, _⟩
          · cases h1
          · injection h1 with h1; injection h1 with h1; injection h1 with h1; subst h1; exact ⟨cur, h2⟩
        obtain ⟨b, off, hA, hb, hcell⟩ := HSB.out.2.2 hp
        simp only at hA
        subst hA
        have hbel := st.out.bel
        have hD : DepthsAt wr w.heap.size b off cap l := ⟨HHB.out ⟨wr, hbel⟩, fun k hk => by
          have hx : l[k]? = some l[k] := List.getElem?_eq_getElem hk
          rw [dep_of hx]
          exact (SetD.elem hx hb hcell ⟨wr, hbel⟩).2.1⟩
        have hws := HWS.out
        have KI := ins_some (gcap := gcap) hl (by omega) HZ.out wr hD (by have := hbel.size; omega) (by have := hbel.size; omega) (by omega) (by omega) hg hH
        rw [← hl] at hc1 ⊢
        have KS := hide (stable_any l.length h20 (.slice (some ⟨g, 0, none⟩) l.length gcap) (.func (.func 68) #[] #[.pointer (some ⟨w.heap.size, 0, none⟩)]) wr (fun w' => Below g wr w' ∧ NumsIn w' g (orderE (dep l) l.length)) ⟨_, _, rfl⟩ KI)
        have HST := hide (And.intro hbel hgW)
        clear st hcut hne hown e1 hH hcell hD KI hbel hgW hg hl hrow hg0 cur
        go_wp2_with fail
        refine KS.out.mono ?_
        rintro e w' ⟨rfl, hS⟩
        have HS := hide hS
        clear hS
        go_wp2
        go_ret2
        have hb' : Below W.heap.size W w' := HST.out.1.trans (HS.out.1.mono HST.out.2)
        exact ⟨_, gcap, rfl, hc1, hc2, HBD.out ⟨w', hb'⟩, fun _ => ⟨g, rfl, HS.out.2⟩⟩
end Go.Proofs.YtliehhnnfpkciaaGreatDoor
