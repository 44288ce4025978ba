/- batten.twice: two elements of one name. -/
import Derived.Test.YtcdkhlndohokcaaGreatDoorItems
import Derived.Maps.OwnSet
namespace Go.Proofs.YtcdkhlndohokcaaGreatDoor
open Go.RowKit Go.Maps Go.WideMaps

def nameKey (s : ByteArray) : Lit := .string s.data.toList
def setKeys (ks : List ByteArray) : DataW Unit := setOf (.agg []) (ks.map nameKey)
theorem setKeys_snoc (ks : List ByteArray) (s : ByteArray) : setKeys (ks ++ [s]) = (setKeys ks).put (nameKey s) (.agg []) := by
  unfold setKeys
  rw [List.map_append, List.map_cons, List.map_nil, setOf_snoc]
/-- how many different names there are -/
def distinct (ks : List ByteArray) : Nat := ((ks.map nameKey).foldl addKey []).length
theorem size_setKeys (ks : List ByteArray) : Maps.size (setKeys ks) = distinct ks :=
  size_setOf _ _ fun x hx => by
    obtain ⟨s, _, rfl⟩ := List.mem_map.1 hx
    exact trivial
theorem grownBy_of_below {a w : World} (h : Below a.heap.size a w) (row : Option Nat) : a.grownBy w row := ⟨h.os, h.tape, h.output, h.size, fun i hi _ => h.block i hi⟩

theorem setKeys_next {α : Type} {l : List α} {f : α → ByteArray} {k : Nat} {z : α} (h : l[k]? = some z) : setKeys ((l.take (k + 1)).map f) = (setKeys ((l.take k).map f)).put (nameKey (f z)) (.agg []) := by
  rw [List.take_add_one, h, List.map_append]
  exact setKeys_snoc _ _
theorem twice_end {α : Type} {l : List α} {f : α → ByteArray} {k : Nat} (hk : k = l.length) : decide (Maps.size (setKeys ((l.take k).map f)) < l.length) = decide (distinct (l.map f) < l.length) := by
  subst hk
  rw [List.take_length, size_setKeys]

theorem nameKey_same {a b : ByteArray} : (nameKey a).sameKey (nameKey b) = sameName a b := by
  unfold nameKey sameName
  rw [ByteArray.toList_eq, ByteArray.toList_eq]
  by_cases h : a.data.toList = b.data.toList
  · rw [h]; simp [Lit.sameKey]
  · rw [Maps.sameKey_ne (by intro e; injection e with e; exact h e)]
    symm
    simpa using h
theorem distinct_foldl (ks : List ByteArray) : ∀ acc : List ByteArray, ((ks.map nameKey).foldl addKey (acc.map nameKey)).length ≤ acc.length + ks.length ∧
    (((ks.map nameKey).foldl addKey (acc.map nameKey)).length = acc.length + ks.length ↔ ∀ j (x : ByteArray), ks[j]? = some x → (acc ++ ks.take j).any (fun y => sameName y x) = false) := by
  induction ks with
  | nil => intro acc; simp
  | cons s ks ih =>
    intro acc
    have hany : (acc.map nameKey).any (fun y => y.sameKey (nameKey s)) = acc.any (fun y => sameName y s) := by
      rw [List.any_map]; congr 1; funext y; exact nameKey_same
    simp only [List.map_cons, List.foldl_cons, addKey, hany]
    cases hs : acc.any (fun y => sameName y s)
    · have := ih (acc ++ [s])
      simp only [List.map_append, List.map_cons, List.map_nil, List.length_append, List.length_cons, List.length_nil] at this
      refine ⟨by simp; omega, ?_⟩
      simp only [Bool.false_eq_true, if_false, List.length_cons]
      rw [show acc.length + (ks.length + 1) = acc.length + (0 + 1) + ks.length by omega, this.2]
      constructor
      · intro h j x hx
        cases j with
        | zero => simp at hx; subst hx; simpa using hs
        | succ j => have := h j x (by simpa using hx); simpa using this
      · intro h j x hx
        have := h (j + 1) x (by simpa using hx)
        simpa using this
    · have := ih acc
      refine ⟨by simp; omega, ?_⟩
      simp only [if_true, List.length_cons]
      constructor
      · intro h; omega
      · intro h
        have := h 0 s rfl
        simp at this
        rw [List.any_eq_true] at hs
        obtain ⟨y, hy, hy'⟩ := hs
        rw [this y hy] at hy'
        cases hy'
theorem distinct_lt {α : Type} (l : List α) (f : α → ByteArray) : decide (distinct (l.map f) < l.length) = !allIdx (fun i x => !(l.take i).any (fun y => sameName (f y) (f x))) l := by
  have h := distinct_foldl (l.map f) []
  simp only [List.map_nil, List.length_nil, Nat.zero_add, List.length_map, List.nil_append] at h
  cases ha : allIdx (fun i x => !(l.take i).any (fun y => sameName (f y) (f x))) l
  · have hne : ¬ distinct (l.map f) = l.length := fun e => by
      have h2 := h.2.1 e
      rw [Bool.eq_false_iff] at ha
      apply ha
      rw [allIdx_iff]
      intro j y hy
      have := h2 j (f y) (by rw [List.getElem?_map, hy]; rfl)
      rw [← List.map_take, List.any_map] at this
      have e2 : ((fun y_1 => sameName y_1 (f y)) ∘ f) = (fun z => sameName (f z) (f y)) := rfl
      rw [e2] at this
      simp [this]
    have h1 : distinct (l.map f) ≤ l.length := h.1
    simp; omega
  · have he : distinct (l.map f) = l.length := h.2.2 fun j x hx => by
      rw [List.getElem?_map] at hx
      cases hl : l[j]? with
      | none => rw [hl] at hx; simp at hx
      | some y =>
        rw [hl] at hx
        simp at hx
        subst hx
        have := allIdx_iff.1 ha j y hl
        rw [← List.map_take, List.any_map]
        have e2 : ((fun y_1 => sameName y_1 (f y)) ∘ f) = (fun z => sameName (f z) (f y)) := rfl
        rw [e2]
        simpa using this
    simp [he]

/-- What a function value that tells a name is asked for. -/
def Tells {α : Type} (P : Program) (g : Nat) (val : α → Value) (f : α → ByteArray) : Prop := ∀ (e : α) (w : World), Calls P g #[val e] w (Gives w (.string (f e)))

theorem lawItemStr : Keyed Tryz.prog 9 := string_keyed Tryz.underlying9
theorem enters_items1 : ∀ args w, (callFunc 77 args).run Tryz.prog w = .ok (.enter 77 args) w := entersOf Tryz.func77 (by kernel_rfl) rfl
set_option maxHeartbeats 400000 in
theorem items1_any (e : ItemD) (w : World) : Calls Tryz.prog 77 #[.agg #[.string e.name, .int .i64 e.place, .int .i64 e.width, .int .i64 e.weight, .int .i64 e.hang, .int .i64 e.front, .int .i64 e.back]] w (Gives w (.string e.name)) := by
  go_enter Tryz.func77, Tryz.ntmps77
  go_wp2
  go_ret
  exact Gives.mk rfl ((Below.refl _ _).alloc (Nat.le_refl _) _)
set_option maxHeartbeats 1000000 in
theorem twiceItem_any (A : Option Addr) (cap : Nat) (l : List ItemD) (hok : ∀ x ∈ l, x.ok) (w : World) (B : Nat) (hB : B ≤ w.heap.size) (hs : SlAt w B 7 ItemD.cells ⟨A, cap, l⟩) :
    Calls Tryz.prog 76 #[.slice A l.length cap, .func (.func 77) #[] #[]] w (Gives w (.bool (decide (distinct (l.map (·.name)) < l.length)))) := by
  have hmm := @run_makeMap Tryz.prog
  have hm : cap ≤ 9223372036854775807 := hs.2.1
  have hlc : l.length ≤ cap := hs.1
  have heg := enters_items1
  have HS := hide hs
  have HOK := hide hok
  clear hs hok
  go_enter Tryz.func76, Tryz.ntmps76
  go_wp2
  go_loopw [11] (fun v wr => ∃ k : Nat, v = .int .i64 k ∧ k ≤ l.length ∧ Hid (wr.ownsMap Tryz.prog 9 unitElem w.heap.size k (setKeys ((l.take k).map (·.name)))) ∧ ∃ x : After w.heap.size w, wr = x.val) (fun v _ => l.length - (intOf v).toNat)
  case atStart => exact ⟨0, rfl, Nat.zero_le _, World.ownsMap_made _ _ _ _, ⟨_, (Below.refl _ _).alloc (Nat.le_refl _) _⟩, rfl⟩
  case round =>
    obtain ⟨k, rfl, hk, hown, x, rfl⟩ := hrel
    by_cases hlt : k < l.length
    · obtain ⟨b, off, hA, hb, hcell⟩ := HS.out.2.2 (show 0 < l.length by omega)
      simp only at hA
      subst hA
      have hx : l[k]? = some l[k] := List.getElem?_eq_getElem hlt
      have hnm := (HOK.out l[k] (List.getElem_mem hlt)).name
      have he := fun x : After w.heap.size w => ItemD.elem hx (show b < w.heap.size by omega) hcell x
      have HX := hide hx
      clear hcell hx
      obtain ⟨W, hW, hWs, hWb, hWh⟩ := boxed x.val (.cells #[.string l[k].name, .int .i64 l[k].place, .int .i64 l[k].width, .int .i64 l[k].weight, .int .i64 l[k].hang, .int .i64 l[k].front, .int .i64 l[k].back] 63)
      have hc := fun y : After W.heap.size W => ItemD.boxed hWh (by omega) y
      have hbd : ∀ y : After W.heap.size W, Below w.heap.size w y.val := fun y => x.below.trans ((hWb.mono x.size).trans (y.below.mono (by have := x.size; omega)))
      have hownW : ∀ y : After W.heap.size W, y.val.ownsMap Tryz.prog 9 unitElem w.heap.size k (setKeys ((l.take k).map (·.name))) := fun y => (hW ▸ hown.out.alloc _ : W.ownsMap _ _ _ _ _ _).kept (grownBy_of_below y.below none) (by simp)
      have HW := hide hW
      have HBD := hide hbd
      have HO := hide hownW
      clear hW hWs hWh hbd hownW
      go_wp2_with fail
      rw [← HW.out]
      refine (Gives.first (items1_any l[k] W)).mono ?_
      rintro e w' ⟨rfl, y, rfl⟩
      have hown2 := HO.out y
      go_wp2_with (at_mapUpdate; refine wpList_mapUpdate_own _ rfl _ _ _ 148 rfl 9 149 lawItemStr Tryz.underlying148 unitElem w.heap.size k _ rfl hown2 (by unfold maxLen; omega) _ _ _ rfl rfl (keyOf_string_mk Tryz.underlying9 hnm) _ [] unitElem_mk ?_; intro w1 hown1 hgrow1)
      exact ⟨⟨k + 1, by go_num, by omega, (by rw [setKeys_next HX.out]; exact hown1), ⟨_, (HBD.out y).grown hgrow1 (HBD.out y).size (fun j hj => by cases hj; exact Nat.le_refl _)⟩, rfl⟩, by simp [intOf]; omega⟩
    · go_wp2_with (at_len; refine wpList_len_own _ rfl _ 148 rfl 9 149 Tryz.underlying148 _ w.heap.size k _ rfl hown.out ?_)
      go_ret
      exact Gives.mk (congrArg Value.bool (by rw [← List.map_take]; exact twice_end (by omega))) x.below
theorem lawBrickStr : Keyed Tryz.prog 9 := string_keyed Tryz.underlying9
theorem enters_bricks1 : ∀ args w, (callFunc 84 args).run Tryz.prog w = .ok (.enter 84 args) w := entersOf Tryz.func84 (by kernel_rfl) rfl
set_option maxHeartbeats 400000 in
theorem bricks1_any (e : BrickD) (w : World) : Calls Tryz.prog 84 #[.agg #[.string e.name, .int .i64 e.weight, .int .i64 e.count]] w (Gives w (.string e.name)) := by
  go_enter Tryz.func84, Tryz.ntmps84
  go_wp2
  go_ret
  exact Gives.mk rfl ((Below.refl _ _).alloc (Nat.le_refl _) _)
set_option maxHeartbeats 1000000 in
theorem twiceBrick_any (A : Option Addr) (cap : Nat) (l : List BrickD) (hok : ∀ x ∈ l, x.ok) (w : World) (B : Nat) (hB : B ≤ w.heap.size) (hs : SlAt w B 3 BrickD.cells ⟨A, cap, l⟩) :
    Calls Tryz.prog 83 #[.slice A l.length cap, .func (.func 84) #[] #[]] w (Gives w (.bool (decide (distinct (l.map (·.name)) < l.length)))) := by
  have hmm := @run_makeMap Tryz.prog
  have hm : cap ≤ 9223372036854775807 := hs.2.1
  have hlc : l.length ≤ cap := hs.1
  have heg := enters_bricks1
  have HS := hide hs
  have HOK := hide hok
  clear hs hok
  go_enter Tryz.func83, Tryz.ntmps83
  go_wp2
  go_loopw [11] (fun v wr => ∃ k : Nat, v = .int .i64 k ∧ k ≤ l.length ∧ Hid (wr.ownsMap Tryz.prog 9 unitElem w.heap.size k (setKeys ((l.take k).map (·.name)))) ∧ ∃ x : After w.heap.size w, wr = x.val) (fun v _ => l.length - (intOf v).toNat)
  case atStart => exact ⟨0, rfl, Nat.zero_le _, World.ownsMap_made _ _ _ _, ⟨_, (Below.refl _ _).alloc (Nat.le_refl _) _⟩, rfl⟩
  case round =>
    obtain ⟨k, rfl, hk, hown, x, rfl⟩ := hrel
    by_cases hlt : k < l.length
    · obtain ⟨b, off, hA, hb, hcell⟩ := HS.out.2.2 (show 0 < l.length by omega)
      simp only at hA
      subst hA
      have hx : l[k]? = some l[k] := List.getElem?_eq_getElem hlt
      have hnm := (HOK.out l[k] (List.getElem_mem hlt)).name
      have he := fun x : After w.heap.size w => BrickD.elem hx (show b < w.heap.size by omega) hcell x
      have HX := hide hx
      clear hcell hx
      obtain ⟨W, hW, hWs, hWb, hWh⟩ := boxed x.val (.cells #[.string l[k].name, .int .i64 l[k].weight, .int .i64 l[k].count] 65)
      have hc := fun y : After W.heap.size W => BrickD.boxed hWh (by omega) y
      have hbd : ∀ y : After W.heap.size W, Below w.heap.size w y.val := fun y => x.below.trans ((hWb.mono x.size).trans (y.below.mono (by have := x.size; omega)))
      have hownW : ∀ y : After W.heap.size W, y.val.ownsMap Tryz.prog 9 unitElem w.heap.size k (setKeys ((l.take k).map (·.name))) := fun y => (hW ▸ hown.out.alloc _ : W.ownsMap _ _ _ _ _ _).kept (grownBy_of_below y.below none) (by simp)
      have HW := hide hW
      have HBD := hide hbd
      have HO := hide hownW
      clear hW hWs hWh hbd hownW
      go_wp2_with fail
      rw [← HW.out]
      refine (Gives.first (bricks1_any l[k] W)).mono ?_
      rintro e w' ⟨rfl, y, rfl⟩
      have hown2 := HO.out y
      go_wp2_with (at_mapUpdate; refine wpList_mapUpdate_own _ rfl _ _ _ 148 rfl 9 149 lawBrickStr Tryz.underlying148 unitElem w.heap.size k _ rfl hown2 (by unfold maxLen; omega) _ _ _ rfl rfl (keyOf_string_mk Tryz.underlying9 hnm) _ [] unitElem_mk ?_; intro w1 hown1 hgrow1)
      exact ⟨⟨k + 1, by go_num, by omega, (by rw [setKeys_next HX.out]; exact hown1), ⟨_, (HBD.out y).grown hgrow1 (HBD.out y).size (fun j hj => by cases hj; exact Nat.le_refl _)⟩, rfl⟩, by simp [intOf]; omega⟩
    · go_wp2_with (at_len; refine wpList_len_own _ rfl _ 148 rfl 9 149 Tryz.underlying148 _ w.heap.size k _ rfl hown.out ?_)
      go_ret
      exact Gives.mk (congrArg Value.bool (by rw [← List.map_take]; exact twice_end (by omega))) x.below
end Go.Proofs.YtcdkhlndohokcaaGreatDoor
