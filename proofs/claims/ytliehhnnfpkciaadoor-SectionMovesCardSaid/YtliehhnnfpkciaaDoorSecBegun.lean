/- section.begun: the size of the picture, its struct in memory, or the error number. -/
import Derived.Test.YtliehhnnfpkciaaDoorSecNum
import Derived.Deep.RegionWith
import Derived.Deep.DrawnRows
import Derived.RegionTactic
import Derived.BigRegion
namespace Go.Proofs.YtliehhnnfpkciaaDoor
open Go.RowKit

def farItem (d scale : Int) (m : Int) (i : ItemD) : Int := max m ((d + i.front) / scale)
def farSet (scale : Int) (m : Int) (s : SetD) : Int := s.items.l.foldl (farItem s.depth scale) (max m (s.depth / scale))
def farTo (l : List SetD) (scale : Int) : Int := l.foldl (farSet scale) 0
theorem farTo_next {l : List SetD} {k : Nat} {s : SetD} (scale : Int) (h : l[k]? = some s) : farTo (l.take (k + 1)) scale = farSet scale (farTo (l.take k) scale) s := by
  rw [List.take_add_one, h]; simp [farTo, List.foldl_append]
theorem farItems_next {l : List ItemD} {k : Nat} {i : ItemD} (d scale m : Int) (h : l[k]? = some i) : (l.take (k + 1)).foldl (farItem d scale) m = farItem d scale ((l.take k).foldl (farItem d scale) m) i := by
  rw [List.take_add_one, h]; simp [List.foldl_append]
/-- the numbers of a valid set that the picture takes -/
structure SecSet (s : SetD) : Prop where
  d0 : 0 ≤ s.depth
  d1 : s.depth ≤ 1048576
  low : 0 ≤ s.low
  high : s.high ≤ 1048576
  items : ∀ i ∈ s.items.l, (0 ≤ i.hang ∧ i.hang ≤ 1048576) ∧ (0 ≤ i.front ∧ i.front ≤ 1048576) ∧ (0 ≤ i.back ∧ i.back ≤ 1048576)
theorem secSet_of_ok {h : HouseD} (hh : houseOk h = true) : ∀ s ∈ h.sets.l, SecSet s := fun s hs => by
  have h2 := set_of_ok hh hs
  obtain ⟨d0, d1, _, _⟩ := sized_of_ok hh s hs
  rw [setOk] at h2
  simp only [Bool.and_eq_true] at h2
  obtain ⟨_, _, lo, hi, _, _⟩ := setFirst_iff.1 h2.1.1.1.1
  rw [betweenB_iff] at lo hi
  refine ⟨d0, d1, lo.1, hi.2, fun i hi' => ?_⟩
  have h3 := h2.1.2
  rw [itemsOk, Bool.and_eq_true] at h3
  obtain ⟨j, hj, e⟩ := List.getElem_of_mem hi'
  have h4 := allIdx_iff.1 h3.2 j i (by rw [List.getElem?_eq_getElem hj, e])
  rw [itemAt, Bool.and_eq_true] at h4
  obtain ⟨_, _, _, _, a, b, c⟩ := itemFine_iff.1 h4.1
  rw [betweenB_iff] at a b c
  exact ⟨a, b, c⟩
theorem farItems_bound {d scale : Int} (hd0 : 0 ≤ d) (hd1 : d ≤ 1048576) (hs : 1 ≤ scale) : ∀ (l : List ItemD) (m : Int), (∀ i ∈ l, 0 ≤ i.front ∧ i.front ≤ 1048576) → 0 ≤ m → m ≤ 2097152 → 0 ≤ l.foldl (farItem d scale) m ∧ l.foldl (farItem d scale) m ≤ 2097152
  | [], m, _, a, b => ⟨a, b⟩
  | i :: l, m, h, a, b => by
    rw [List.foldl_cons]
    have hf := h i (List.mem_cons_self ..)
    have q0 : 0 ≤ (d + i.front) / scale := Int.ediv_nonneg (by omega) (by omega)
    have q1 : (d + i.front) / scale ≤ d + i.front := Int.ediv_le_self _ (by omega)
    exact farItems_bound hd0 hd1 hs l _ (fun i hi => h i (List.mem_cons_of_mem _ hi)) (by unfold farItem; omega) (by unfold farItem; omega)
theorem farSet_bound {scale m : Int} {s : SetD} (hz : SecSet s) (hs : 1 ≤ scale) (a : 0 ≤ m) (b : m ≤ 2097152) : 0 ≤ farSet scale m s ∧ farSet scale m s ≤ 2097152 := by
  have q0 : 0 ≤ s.depth / scale := Int.ediv_nonneg hz.d0 (by omega)
  have q1 : s.depth / scale ≤ s.depth := Int.ediv_le_self _ hz.d0
  have := hz.d1
  exact farItems_bound hz.d0 hz.d1 hs _ _ (fun i hi => (hz.items i hi).2.1) (by omega) (by omega)
theorem farFold_bound {scale : Int} (hs : 1 ≤ scale) : ∀ (l : List SetD) (m : Int), (∀ s ∈ l, SecSet s) → 0 ≤ m → m ≤ 2097152 → 0 ≤ l.foldl (farSet scale) m ∧ l.foldl (farSet scale) m ≤ 2097152
  | [], m, _, a, b => ⟨a, b⟩
  | s :: l, m, h, a, b => by
    obtain ⟨c, d⟩ := farSet_bound (h s (List.mem_cons_self ..)) hs a b
    exact farFold_bound hs l _ (fun t ht => h t (List.mem_cons_of_mem _ ht)) c d
theorem farTo_bound {l : List SetD} {scale : Int} (hz : ∀ s ∈ l, SecSet s) (hs : 1 ≤ scale) : 0 ≤ farTo l scale ∧ farTo l scale ≤ 2097152 := farFold_bound hs l 0 hz (by omega) (by omega)
theorem farTake_bound {l : List SetD} {scale : Int} (hz : ∀ s ∈ l, SecSet s) (hs : 1 ≤ scale) (k : Nat) : 0 ≤ farTo (l.take k) scale ∧ farTo (l.take k) scale ≤ 2097152 := farTo_bound (fun s h => hz s (List.mem_of_mem_take h)) hs

/-! ### the picture's struct -/
def PicBox (pb : Nat) (scale R C : Int) (cs : Value) (w : World) : Prop := w.heap[pb]? = some (.cells #[.int .i64 scale, .int .i64 R, .int .i64 C, cs] 90 (0, 0))
section
variable {pb : Nat} {scale R C : Int} {cs : Value} {w w' : World} {B : Nat}
theorem PicBox.lt (h : PicBox pb scale R C cs w) : pb < w.heap.size := (Array.getElem?_eq_some_iff.1 h).1
theorem PicBox.below (h : PicBox pb scale R C cs w) (hb : Below B w w') (hB : pb < B) : PicBox pb scale R C cs w' := (hb.block pb hB).trans h
theorem PicBox.of_block (h : PicBox pb scale R C cs w) (e : w'.heap[pb]? = w.heap[pb]?) : PicBox pb scale R C cs w' := e.trans h
theorem PicBox.alloc (h : PicBox pb scale R C cs w) (o : Obj) : PicBox pb scale R C cs (w.alloc o) := (Lib.alloc_old w o pb h.lt).trans h
theorem PicBox.cell0 (h : PicBox pb scale R C cs w) : w.cell? ⟨pb, 0, none⟩ = some (.int .i64 scale) := by rw [Lib.cell_of_heap h]; rfl
theorem PicBox.cell1 (h : PicBox pb scale R C cs w) : w.cell? ⟨pb, 1, none⟩ = some (.int .i64 R) := by rw [Lib.cell_of_heap h]; rfl
theorem PicBox.cell2 (h : PicBox pb scale R C cs w) : w.cell? ⟨pb, 2, none⟩ = some (.int .i64 C) := by rw [Lib.cell_of_heap h]; rfl
theorem PicBox.cell3 (h : PicBox pb scale R C cs w) : w.cell? ⟨pb, 3, none⟩ = some cs := by rw [Lib.cell_of_heap h]; rfl
theorem PicBox.frozen (h : PicBox pb scale R C cs w) (j : Nat) : w.frozen? ⟨pb, j, none⟩ = false := Lib.frozen_of_heap h j
theorem PicBox.setCols (h : PicBox pb scale R C cs w) (v : Int) : PicBox pb scale R v cs (w.setCell ⟨pb, 2, none⟩ (.int .i64 v)) := by
  unfold PicBox at *
  simp [World.setCell, Array.getElem?_modify, h]
theorem PicBox.setCells (h : PicBox pb scale R C cs w) (v : Value) : PicBox pb scale R C v (w.setCell ⟨pb, 3, none⟩ v) := by
  unfold PicBox at *
  simp [World.setCell, Array.getElem?_modify, h]
theorem PicBox.other (h : PicBox pb scale R C cs w) {a : Addr} (ha : pb ≠ a.block) (v : Value) : PicBox pb scale R C cs (w.setCell a v) := (Below.heap_setCell w a v pb ha).trans h
end
def secRows (h : HouseD) (scale : Int) : Int := h.height / scale + 1
def secCols (h : HouseD) (scale : Int) : Int := farTo h.sets.l scale + 1
def secE (h : HouseD) (scale : Int) : Int := if houseOk h = true then (if 1 ≤ scale ∧ scale ≤ 1048576 then (if secRows h scale ≤ 200 ∧ secCols h scale ≤ 200 then 0 else 4) else 2) else 1
theorem height_of_ok {h : HouseD} (hh : houseOk h = true) : 1 ≤ h.height ∧ h.height ≤ 1048576 := by
  rw [houseOk, Bool.and_eq_true] at hh
  obtain ⟨_, a, b, _, _⟩ := houseHead_iff.1 hh.1
  exact ⟨a, b⟩
/-- what section.begun leaves -/
def Begun (h : HouseD) (scale : Int) (w : World) (e : Ending) (w' : World) : Prop :=
  Below w.heap.size w w' ∧ ∃ pb, w.heap.size ≤ pb ∧ e = .returned (.tuple #[.pointer (some ⟨pb, 0, none⟩), .int .i64 0]) ∧ PicBox pb scale (secRows h scale) (secCols h scale) (.slice none 0 0) w'
set_option maxHeartbeats 1000000 in
theorem begun_bad (h : HouseD) (hok : h.ok) (scale : Int) (hbad : givenE h scale ≠ 0) (w : World) (B : Nat) (hB : B ≤ w.heap.size) (hat : HouseD.at_ w B h) :
    Calls Tryd.prog 50 #[.agg #[.string h.name, .int .i64 h.height, .slice h.sets.A h.sets.l.length h.sets.cap, .slice h.roofs.A h.roofs.l.length h.roofs.cap], .int .i64 scale] w (Gives w (.tuple #[.pointer none, .int .i64 (givenE h scale)])) := by
  obtain ⟨W, hW, hWs, hWb, hWh⟩ := boxed w (.cells #[.string h.name, .int .i64 h.height, .slice h.sets.A h.sets.l.length h.sets.cap, .slice h.roofs.A h.roofs.l.length h.roofs.cap] 25)
  have hc := fun y : After W.heap.size W => HouseD.boxed hWh (by omega) y
  have hbd : ∀ y : After W.heap.size W, Below w.heap.size w y.val := fun y => hWb.trans (y.below.mono (by omega))
  have hv := houseValid_any h hok W W.heap.size (Nat.le_refl _) (hat.to (hWb.mono hB) (by omega))
  have HV := hide hv
  have HW := hide hW
  have HBD := hide hbd
  clear hW hWs hWh hWb hbd hat hok hv
  cases hh : houseOk h
  · have HE := hide (givenE_bad (scale := scale) hh)
    clear hbad
    go_enter Tryd.func50, Tryd.ntmps50
    go_wp2_with (go_at_call 38; rw [← HW.out]; refine (Gives.first HV.out).mono ?_; rintro e w' ⟨rfl, y, rfl⟩)
    go_ret2
    exact Gives.mk (by rw [HE.out]; rfl) (HBD.out _)
  · have hs : ¬ (1 ≤ scale ∧ scale ≤ 1048576) := fun hs => hbad (givenE_ok hh hs.1 hs.2)
    have HE := hide (givenE_range hh hs)
    have hs' : scale < 1 ∨ 1048576 < scale := by omega
    clear hs hbad
    rcases hs' with hs | hs
    all_goals
      go_enter Tryd.func50, Tryd.ntmps50
      go_wp2_with (go_at_call 38; rw [← HW.out]; refine (Gives.first HV.out).mono ?_; rintro e w' ⟨rfl, y, rfl⟩)
      go_ret2
      exact Gives.mk (by rw [HE.out]; rfl) (HBD.out _)
set_option maxHeartbeats 4000000 in
set_option maxRecDepth 100000 in
theorem begun_any (h : HouseD) (hok : h.ok) (scale : Int) (h0 : givenE h scale = 0) (w : World) (B : Nat) (hB : B ≤ w.heap.size) (hat : HouseD.at_ w B h) :
    Calls Tryd.prog 50 #[.agg #[.string h.name, .int .i64 h.height, .slice h.sets.A h.sets.l.length h.sets.cap, .slice h.roofs.A h.roofs.l.length h.roofs.cap], .int .i64 scale] w (fun e w' => if secRows h scale ≤ 200 ∧ secCols h scale ≤ 200 then Begun h scale w e w' else Gives w (.tuple #[.pointer none, .int .i64 4]) e w') := by
  obtain ⟨hh, hs1, hs2⟩ := givenE_zero h0
  obtain ⟨ht1, ht2⟩ := height_of_ok hh
  have hz := secSet_of_ok hh
  obtain ⟨q0, q1⟩ := quo_bound (show 0 ≤ h.height by omega) ht2 hs1
  obtain ⟨W, hW, hWs, hWb, hWh⟩ := boxed w (.cells #[.string h.name, .int .i64 h.height, .slice h.sets.A h.sets.l.length h.sets.cap, .slice h.roofs.A h.roofs.l.length h.roofs.cap] 25)
  have hc := fun y : After W.heap.size W => HouseD.boxed hWh (by omega) y
  have hbd : ∀ v : World, Below W.heap.size W v → Below w.heap.size w v := fun v hv => hWb.trans (hv.mono (by omega))
  have hwW : w.heap.size ≤ W.heap.size := by omega
  have hatW : HouseD.at_ W W.heap.size h := hat.to (hWb.mono hB) (by omega)
  have hv := houseValid_any h hok W W.heap.size (Nat.le_refl _) hatW
  rw [hh] at hv
  have hlc : h.sets.l.length ≤ h.sets.cap := hat.sets.1
  have hm : h.sets.cap ≤ 9223372036854775807 := hat.sets.2.1
  have HSL := hide hatW.sets
  have HEA := hide hatW.each
  have HV := hide hv
  have HZ := hide hz
  have HW := hide hW
  have HBD := hide hbd
  have HFB := hide fun k => farTake_bound hz hs1 k
  have hyz : ∀ y : After W.heap.size W, w.heap.size < y.val.heap.size := fun y => Nat.lt_of_lt_of_le (show w.heap.size < W.heap.size by omega) y.size
  have HPO : Hid (∀ e w', (fun e w' => if secRows h scale ≤ 200 ∧ secCols h scale ≤ 200 then Begun h scale w e w' else Gives w (.tuple #[.pointer none, .int .i64 4]) e w') e w' = (if h.height / scale + 1 ≤ 200 ∧ farTo h.sets.l scale + 1 ≤ 200 then Begun h scale w e w' else Gives w (.tuple #[.pointer none, .int .i64 4]) e w')) := fun _ _ => rfl
  generalize hpost : (fun e w' => if secRows h scale ≤ 200 ∧ secCols h scale ≤ 200 then Begun h scale w e w' else Gives w (.tuple #[.pointer none, .int .i64 4]) e w') = POST at *
  clear hpost hW hWs hWh hWb hbd hat hatW hok hv hz hh h0
  unfold Begun secRows secCols at HPO
  obtain ⟨name, height, ⟨A, cap, l⟩, roofs⟩ := h
  simp only at *
  go_enter Tryd.func50, Tryd.ntmps50
  go_wp2_with (go_at_call 38; rw [← HW.out]; refine (Gives.first HV.out).mono ?_; rintro e w' ⟨rfl, y, rfl⟩)
  obtain ⟨pb, hpb⟩ : ∃ pb, pb = y.val.heap.size := ⟨_, rfl⟩
  have hpw : W.heap.size ≤ pb := by rw [hpb]; exact y.size
  have HST := hide (show PicBox pb scale (height / scale + 1) (farTo (l.take 0) scale + 1) (.slice none 0 0) (y.val.alloc (.cells #[.int .i64 scale, .int .i64 (height / scale + 1), .int .i64 1, .slice none 0 0] 90)) ∧ Below W.heap.size W (y.val.alloc (.cells #[.int .i64 scale, .int .i64 (height / scale + 1), .int .i64 1, .slice none 0 0] 90)) from
    ⟨by rw [hpb]; exact heap_alloc_new y.val _, y.below.alloc y.size _⟩)
  rw [← hpb]
  clear hpb
  generalize y.val.alloc (.cells #[.int .i64 scale, .int .i64 (height / scale + 1), .int .i64 1, .slice none 0 0] 90) = w0 at *
  go_loopw [8, 33] (fun _ v wr => ∃ k : Nat, v = .int .i64 k ∧ k ≤ l.length ∧ PicBox pb scale (height / scale + 1) (farTo (l.take k) scale + 1) (.slice none 0 0) wr ∧ Below W.heap.size W wr) (fun _ v _ => l.length - (intOf v).toNat)
  case atStart => exact ⟨0, rfl, Nat.zero_le _, HST.out⟩
  case round =>
    obtain ⟨k, rfl, hk, hP, hBw⟩ := hrel
    clear HST
    by_cases hlt : k < l.length
    · obtain ⟨x, rfl⟩ : ∃ x : After W.heap.size W, wr = x.val := After.exists_iff hBw
      obtain ⟨b, off, hA, hb, hcell⟩ := HSL.out.2.2 (show 0 < l.length by omega)
      simp only at hA
      subst hA
      have hx : l[k]? = some l[k] := List.getElem?_eq_getElem hlt
      have he := fun x : After W.heap.size W => SetD.elem hx hb hcell x
      have HZS := hide (HZ.out l[k] (List.getElem_mem hlt))
      have HX := hide hx
      have d0 := HZS.out.d0
      have d1 := HZS.out.d1
      obtain ⟨f0, f1⟩ := HFB.out k
      have HNX := hide (farTo_next scale hx)
      have HIT := hide ((HEA.out l[k] (List.getElem_mem hlt)).items)
      clear hcell hx
      obtain ⟨e0, e1⟩ := quo_bound d0 d1 hs1
      have hbz : pb < x.val.heap.size := hP.lt
      have hbz : pb < x.val.heap.size := hP.lt
      have HZI := hide fun i hi => (HZS.out.items i hi).2.1
      have HFI := hide fun (il : List ItemD) (m : Int) (h : ∀ i ∈ il, i ∈ l[k].items.l) (a : 0 ≤ m) (b : m ≤ 2097152) => farItems_bound (d := l[k].depth) d0 d1 hs1 il m (fun i hi => HZI.out i (h i hi)) a b
      have HFS := hide (show farSet scale (farTo (l.take k) scale) l[k] = l[k].items.l.foldl (farItem l[k].depth scale) (max (farTo (l.take k) scale) (l[k].depth / scale)) from rfl)
      have hic : l[k].items.l.length ≤ l[k].items.cap := HIT.out.1
      have hicm : l[k].items.cap ≤ 9223372036854775807 := HIT.out.2.1
      clear HZS
      generalize hfar : farTo (l.take k) scale = far at *
      clear hfar
      generalize l[k] = s at *
      obtain ⟨sname, depth, low, high, length, lines, pipe, arbor, purchase, most, brake, ⟨IA, icap, il⟩, bricks⟩ := s
      simp only at *
      obtain ⟨W', hW', hWs', hWb', hWh'⟩ := boxed x.val (.cells #[.string sname, .int .i64 depth, .int .i64 low, .int .i64 high, .int .i64 length, .slice lines.A lines.l.length lines.cap, .int .i64 pipe, .int .i64 arbor, .int .i64 purchase, .int .i64 most, .int .i64 brake, .slice IA il.length icap, .slice bricks.A bricks.l.length bricks.cap] 38)
      obtain ⟨bx, hbxe⟩ : ∃ bx, bx = x.val.heap.size := ⟨_, rfl⟩
      have hbx : bx < W'.heap.size := by omega
      have hbp : pb < bx := by omega
      have hbW : W.heap.size ≤ bx := by rw [hbxe]; exact x.size
      rw [← hbxe] at hWh' hWb' hWs' hbz
      have hP' : PicBox pb scale (height / scale + 1) (far + 1) (.slice none 0 0) W' := hP.below hWb' hbp
      have hp2 := hP'.cell2
      have hpf := hP'.frozen 2
      have hcs := SetD.boxed (s := ⟨sname, depth, low, high, length, lines, pipe, arbor, purchase, most, brake, ⟨IA, icap, il⟩, bricks⟩) hWh' hbx (After.refl _ W')
      simp only [After.refl] at hcs
      have HP' := hide hP'
      have HB' := hide (x.below.trans (hWb'.mono (by omega)))
      have HWH := hide hWh'
      have HW' := hide hW'
      have HBX := hide hbxe
      clear hW' hWs' hWb' hWh' hP' hP hBw hbxe
      go_wp2
      rw [← HW'.out, ← HBX.out]
      go_region
      go_wp2
      have HIN := hide (show PicBox pb scale (height / scale + 1) ((il.take 0).foldl (farItem depth scale) (max far (depth / scale)) + 1) (.slice none 0 0) (W'.setCell ⟨pb, 2, none⟩ (.int .i64 (max far (depth / scale) + 1))).drew ∧ Below W.heap.size W (W'.setCell ⟨pb, 2, none⟩ (.int .i64 (max far (depth / scale) + 1))).drew ∧ (W'.setCell ⟨pb, 2, none⟩ (.int .i64 (max far (depth / scale) + 1))).drew.heap[bx]? = some (.cells #[.string sname, .int .i64 depth, .int .i64 low, .int .i64 high, .int .i64 length, .slice lines.A lines.l.length lines.cap, .int .i64 pipe, .int .i64 arbor, .int .i64 purchase, .int .i64 most, .int .i64 brake, .slice IA il.length icap, .slice bricks.A bricks.l.length bricks.cap] 38 (0, 0)) from
        ⟨HP'.out.setCols _, (HB'.out.setCell (p := ⟨pb, 2, none⟩) hpw _).drew, (Below.heap_setCell W' ⟨pb, 2, none⟩ _ bx (by simp only; omega)).trans HWH.out⟩)
      generalize (W'.setCell ⟨pb, 2, none⟩ (.int .i64 (max far (depth / scale) + 1))).drew = w2 at *
      clear hcs hp2 hpf HP' HB' HWH HW' he hc
      go_loopw [10, 53] (fun _ v wr => ∃ j : Nat, v = .int .i64 j ∧ j ≤ il.length ∧ PicBox pb scale (height / scale + 1) ((il.take j).foldl (farItem depth scale) (max far (depth / scale)) + 1) (.slice none 0 0) wr ∧ Below W.heap.size W wr ∧ wr.heap[bx]? = some (.cells #[.string sname, .int .i64 depth, .int .i64 low, .int .i64 high, .int .i64 length, .slice lines.A lines.l.length lines.cap, .int .i64 pipe, .int .i64 arbor, .int .i64 purchase, .int .i64 most, .int .i64 brake, .slice IA il.length icap, .slice bricks.A bricks.l.length bricks.cap] 38 (0, 0))) (fun _ v _ => il.length - (intOf v).toNat)
      case atStart => exact ⟨0, rfl, Nat.zero_le _, HIN.out⟩
      case round =>
        obtain ⟨j, rfl, hj, hP, hBw, hbox⟩ := hrel
        clear HIN
        by_cases hjt : j < il.length
        · obtain ⟨x2, rfl⟩ : ∃ x : After W.heap.size W, wr = x.val := After.exists_iff hBw
          obtain ⟨b2, off2, hA2, hb2, hcell2⟩ := HIT.out.2.2 (show 0 < il.length by omega)
          simp only at hA2
          subst hA2
          have hx2 : il[j]? = some il[j] := List.getElem?_eq_getElem hjt
          have he2 := fun x : After W.heap.size W => ItemD.elem hx2 hb2 hcell2 x
          obtain ⟨g0, g1⟩ := HZI.out il[j] (List.getElem_mem hjt)
          obtain ⟨t0, t1⟩ := HFI.out (il.take j) (max far (depth / scale)) (fun i hi => List.mem_of_mem_take hi) (by omega) (by omega)
          have HN2 := hide (farItems_next depth scale (max far (depth / scale)) hx2)
          clear hcell2 hx2
          have r0 : 0 ≤ (depth + il[j].front) / scale := Int.ediv_nonneg (by omega) (by omega)
          have r1 : (depth + il[j].front) / scale ≤ depth + il[j].front := Int.ediv_le_self _ (by omega)
          have hbxz : bx < x2.val.heap.size := (Array.getElem?_eq_some_iff.1 hbox).1
          obtain ⟨W3, hW3, hWs3, hWb3, hWh3⟩ := boxed x2.val (.cells #[.string il[j].name, .int .i64 il[j].place, .int .i64 il[j].width, .int .i64 il[j].weight, .int .i64 il[j].hang, .int .i64 il[j].front, .int .i64 il[j].back] 40)
          have hP3 : PicBox pb scale (height / scale + 1) ((il.take j).foldl (farItem depth scale) (max far (depth / scale)) + 1) (.slice none 0 0) W3 := hP.below hWb3 (by omega)
          have hp2 := hP3.cell2
          have hpf := hP3.frozen 2
          have hbox3 := (hWb3.block bx hbxz).trans hbox
          have hd3 : W3.cell? ⟨bx, 1, none⟩ = some (.int .i64 depth) := by rw [Lib.cell_of_heap hbox3]; rfl
          have hf3 : W3.cell? ⟨x2.val.heap.size, 5, none⟩ = some (.int .i64 il[j].front) := by rw [Lib.cell_of_heap hWh3]; rfl
          have HP3 := hide hP3
          have HB3 := hide (x2.below.trans (hWb3.mono x2.size))
          have HBO := hide hbox3
          have HW3 := hide hW3
          clear hW3 hWs3 hWb3 hWh3 hP3 hP hBw hbox hbox3
          generalize (il.take j).foldl (farItem depth scale) (max far (depth / scale)) = fj at *
          go_wp2
          rw [← HW3.out]
          go_region
          go_wp2
          exact ⟨⟨j + 1, by go_num, by omega, by rw [HN2.out, farItem]; exact HP3.out.setCols _, (HB3.out.setCell (p := ⟨pb, 2, none⟩) hpw _).drew, (Below.heap_setCell W3 ⟨pb, 2, none⟩ _ bx (by simp only; omega)).trans HBO.out⟩, by simp [intOf]; omega⟩
        · have ej : j = il.length := by omega
          subst ej
          have HPE := hide (show PicBox pb scale (height / scale + 1) (farTo (l.take (k + 1)) scale + 1) (.slice none 0 0) wr by rw [HNX.out, HFS.out]; have := hP; rwa [List.take_length] at this)
          have HBw := hide hBw
          clear hP hBw hbox
          go_wp2
          exact ⟨⟨k + 1, by go_num, by omega, HPE.out, HBw.out⟩, by simp [intOf]; omega⟩
    · have ek : k = l.length := by omega
      subst ek
      rw [List.take_length] at hP
      have HP := hide hP
      have HBw := hide hBw
      obtain ⟨t0, t1⟩ := HFB.out l.length
      rw [List.take_length] at t0 t1
      have c1 := hP.cell1
      have c2 := hP.cell2
      clear hP hBw
      generalize hfar : farTo l scale = far at *
      have HFAR := hide hfar
      clear hfar
      by_cases hr : height / scale + 1 ≤ 200
      · have g1 : decide ((200 : Int) < height / scale + 1) = false := by simp; omega
        by_cases hcc : far + 1 ≤ 200
        · have g2 : decide ((200 : Int) < far + 1) = false := by simp; omega
          go_wp2
          rw [HPO.out, if_pos ⟨hr, hcc⟩]
          exact ⟨HBD.out _ HBw.out, pb, by omega, rfl, HP.out⟩
        · have g2 : (200 : Int) < far + 1 := by omega
          go_wp2
          rw [HPO.out, if_neg (by omega)]
          exact Gives.mk rfl (HBD.out _ HBw.out)
      · have g1 : (200 : Int) < height / scale + 1 := by omega
        go_wp2
        rw [HPO.out, if_neg (by omega)]
        exact Gives.mk rfl (HBD.out _ HBw.out)
end Go.Proofs.YtliehhnnfpkciaaDoor
