/- loftblocklaw32.SectionMoves: the walk of the law. -/
import Derived.Test.YtliehhnnfpkciaaDoorSecRight
import Derived.Test.YtliehhnnfpkciaaDoorSecLines
import Derived.Test.YtliehhnnfpkciaaDoorSecDraw
import Derived.Test.YtliehhnnfpkciaaDoorSecEx
import Derived.Test.YtliehhnnfpkciaaDoorShelf
import Derived.Lib.SmallJoins
import GoSem.Claim
namespace Go.Proofs.YtliehhnnfpkciaaDoor
open Go.RowKit

/-! ### the bounds that a read integer keeps -/
theorem lit_wf {k : IntKind} {n : Int} (h : (Lit.int k n).wf = true) : k.min ≤ n ∧ n ≤ k.max := by
  unfold Lit.wf at h
  rw [Bool.and_eq_true, decide_eq_true_eq, decide_eq_true_eq] at h
  exact h
theorem u8_wf {n : Int} (h : (Lit.int .u8 n).wf = true) : 0 ≤ n ∧ n ≤ 255 := lit_wf h
theorem u16_wf {n : Int} (h : (Lit.int .u16 n).wf = true) : 0 ≤ n ∧ n ≤ 65535 := lit_wf h
theorem u32_wf {n : Int} (h : (Lit.int .u32 n).wf = true) : 0 ≤ n ∧ n ≤ 4294967295 := lit_wf h

/-- block g holds the integers l at its beginning -/
def IntsIn (w : World) (g cap : Nat) (l : List Int) : Prop := ∃ cur : Array Value, w.heap[g]? = some (.cells cur 3 (0, 0)) ∧ l.length ≤ cap ∧ cap ≤ maxLen ∧ cur.size = cap ∧ cur.toList.take l.length = l.map (Value.int .i64)
theorem IntsIn.get {w : World} {g cap : Nat} {l : List Int} (h : IntsIn w g cap l) {k : Nat} {x : Int} (hx : l[k]? = some x) : w.cell? ⟨g, k, none⟩ = some (.int .i64 x) := by
  obtain ⟨cur, h1, h2, h3, h4, h5⟩ := h
  have hk := (List.getElem?_eq_some_iff.1 hx).1
  have h6 := congrArg (fun q => q[k]?) h5
  simp only [List.getElem?_take_of_lt hk, List.getElem?_map, hx, Option.map_some] at h6
  rw [Lib.cell_of_heap h1, ← Array.getElem?_toList, h6]
theorem IntsIn.slAt {w : World} {g cap : Nat} {l : List Int} (h : IntsIn w g cap l) : SlAt w w.heap.size 1 intCells ⟨some ⟨g, 0, none⟩, cap, l⟩ := by
  have hg : g < w.heap.size := by obtain ⟨cur, h1, _⟩ := h; exact (Array.getElem?_eq_some_iff.1 h1).1
  have hl := h
  obtain ⟨cur, h1, h2, h3, _⟩ := hl
  refine ⟨h2, h3, fun _ => ⟨g, 0, rfl, hg, fun i x hx j u hu => ?_⟩⟩
  cases j with
  | zero => simp [intCells] at hu; subst hu; simpa using h.get hx
  | succ j => simp [intCells] at hu
theorem IntsIn.lt {w : World} {g cap : Nat} {l : List Int} (h : IntsIn w g cap l) : g < w.heap.size := by obtain ⟨cur, h1, _⟩ := h; exact (Array.getElem?_eq_some_iff.1 h1).1
theorem IntsIn.frozen {w : World} {g cap : Nat} {l : List Int} (h : IntsIn w g cap l) (i : Nat) : w.frozen? ⟨g, i, none⟩ = false := by obtain ⟨cur, h1, _⟩ := h; exact (by simp [World.frozen?, h1])
theorem IntsIn.below {w w' : World} {g cap B : Nat} {l : List Int} (h : IntsIn w g cap l) (hg : g < B) (hb : Below B w w') : IntsIn w' g cap l := by
  obtain ⟨cur, h1, h2⟩ := h
  exact ⟨cur, (hb.block g hg).trans h1, h2⟩
theorem IntsIn.set {w : World} {g cap : Nat} {l : List Int} (h : IntsIn w g cap l) (i : Nat) (v : Int) : IntsIn (w.setCell ⟨g, i, none⟩ (.int .i64 v)) g cap (l.set i v) := by
  obtain ⟨cur, h1, h2, h3, h4, h5⟩ := h
  refine ⟨_, Joins.block_setCell h1 _, by simpa using h2, h3, by simpa using h4, ?_⟩
  rw [List.length_set, Array.toList_setIfInBounds, List.take_set, h5, List.map_set]
/-- slices.Clone of integers that are some -/
theorem cloneInts (trims : Sl Int) (hl0 : 0 < trims.l.length) (hl : trims.l.length ≤ 1000) (w : World) (h : SlAt w w.heap.size 1 intCells trims) :
    Calls Tryd.prog 18 #[.slice trims.A trims.l.length trims.cap] w fun e w' => ∃ g cap, e = .returned (.slice (some ⟨g, 0, none⟩) trims.l.length cap) ∧ w.heap.size ≤ g ∧ IntsIn w' g cap trims.l ∧ Below w.heap.size w w' := by
  obtain ⟨A, c, l⟩ := trims
  simp only at hl0 hl ⊢
  obtain ⟨b, off, hA, hb, hc⟩ := h.2.2 hl0
  simp only at hA hc
  subst hA
  refine (Tryd.slices_Clone_int b off l.length c l w (Nat.le_refl _) (by omega) (fun j hj => ?_)).mono ?_
  · have := hc j (l.getD j 0) (by rw [List.getD_eq_getElem?_getD, List.getElem?_eq_getElem hj]; rfl) 0 _ rfl
    simpa using this
  · rintro e w' ⟨v', rfl, hown, hne, hbl⟩
    rcases hown.2 with ⟨h1, h2⟩ | ⟨g, cap, cur, rfl, hg, hh, hnc, hcap, hcs, htk⟩
    · exact absurd h2 (by omega)
    · exact ⟨g, cap, rfl, hg, ⟨cur, hh, hnc, hcap, by simpa using hcs, by simpa using htk⟩, hbl⟩
theorem nth_set_ne {l : List Int} {i k : Nat} (v : Int) (h : k ≠ i) : nth l k = nth (l.set i v) k := by
  simp only [nth, List.getD_eq_getElem?_getD]
  rw [List.getElem?_set_ne (fun e => h e.symm)]
theorem trims_set {l : List SetD} {tr : List Int} {i : Nat} {v : Int} (h : trimsE l tr = 0) (hi : i < l.length) (h1 : (setN l i).low ≤ v) (h2 : v ≤ (setN l i).high) : trimsE l (tr.set i v) = 0 := by
  obtain ⟨hlen, hk⟩ := trimsE_zero h
  refine trimsE_ok (by rw [List.length_set]; exact hlen) fun k hkl => ?_
  rw [List.length_set] at hkl
  by_cases e : k = i
  · subst e
    have : nth (tr.set k v) k = v := nth_of (by rw [List.getElem?_set_self (by omega)])
    rw [trimOk, this]; simp [h1, h2]
  · have := hk k hkl
    rw [trimOk] at this ⊢
    rw [← nth_set_ne v e]; exact this
set_option maxHeartbeats 8000000 in
set_option maxRecDepth 100000 in
theorem sectionMoves_any (h : HouseD) (hok : h.ok) (trims : Sl Int) (scale q tv : Int) (hq0 : 0 ≤ q) (hq1 : q ≤ 255) (ht0 : 0 ≤ tv) (ht1 : tv ≤ 4294967295) (w : World) (ht : Tabs w) (B : Nat) (hB : B ≤ w.heap.size) (hat : HouseD.at_ w B h) (hatT : SlAt w B 1 intCells trims) :
    Calls Tryd.prog 6 #[.agg #[.string h.name, .int .i64 h.height, .slice h.sets.A h.sets.l.length h.sets.cap, .slice h.roofs.A h.roofs.l.length h.roofs.cap], .slice trims.A trims.l.length trims.cap, .int .i64 scale, .int .u8 q, .int .u32 tv] w (Gives w (.bool true)) := by
  obtain ⟨W, hW, hWs, hWb, hWh⟩ := boxed w (.cells #[.string h.name, .int .i64 h.height, .slice h.sets.A h.sets.l.length h.sets.cap, .slice h.roofs.A h.roofs.l.length h.roofs.cap] 25)
  have hc := fun y : After W.heap.size W => HouseD.boxed hWh (by omega) y
  have hbd : ∀ y : After W.heap.size W, Below w.heap.size w y.val := fun y => hWb.trans (y.below.mono (by omega))
  have hatW : ∀ y : After W.heap.size W, HouseD.at_ y.val W.heap.size h := fun y => (hat.to (hWb.mono hB) (by omega)).to y.below (Nat.le_refl _)
  have hatTW : ∀ y : After W.heap.size W, SlAt y.val W.heap.size 1 intCells trims := fun y => (hatT.to (hWb.mono hB) (by omega)).to y.below (Nat.le_refl _)
  have HTW := hide (fun y : After W.heap.size W => (ht.below hWb).below y.below)
  have KA := hide fun y : After W.heap.size W => Gives.after (x := y) (Nat.le_refl _) (awake32 y.val)
  have KR := hide fun y : After W.heap.size W => Gives.after (x := y) (Nat.le_refl _) (right_any h hok trims scale y.val W.heap.size y.size (hatW y) (hatTW y))
  have hlc : h.sets.l.length ≤ h.sets.cap := (hatW (After.refl _ W)).sets.1
  have hm : h.sets.cap ≤ 9223372036854775807 := (hatW (After.refl _ W)).sets.2.1
  have HW := hide hW
  have HBD := hide hbd
  have HAT := hide hatW
  have HTT := hide hatTW
  have HLT := hide (show w.heap.size < W.heap.size by omega)
  clear hW hWs hWh hWb hbd hat hatW hatT hatTW ht
  cases hr : rightE h trims.l scale
  · rw [hr] at KR
    clear hr
    go_enter Tryd.func6, Tryd.ntmps6
    go_wp2_with fail
    rw [← HW.out]
    refine (KA.out (After.refl _ W)).mono ?_
    rintro e w1 ⟨rfl, y1, rfl⟩
    go_wp2_with fail
    refine (KR.out y1).mono ?_
    rintro e w1 ⟨rfl, y2, rfl⟩
    go_wp2
    go_ret
    exact Gives.mk rfl (HBD.out _)
  · by_cases hn : h.sets.l.length = 0
    · rw [hr] at KR
      have hn0 : ((h.sets.l.length : Int) == 0) = true := by simp [hn]
      clear hr hn
      go_enter Tryd.func6, Tryd.ntmps6
      go_wp2_with fail
      rw [← HW.out]
      refine (KA.out (After.refl _ W)).mono ?_
      rintro e w1 ⟨rfl, y1, rfl⟩
      go_wp2_with fail
      refine (KR.out y1).mono ?_
      rintro e w1 ⟨rfl, y2, rfl⟩
      go_wp2
      go_ret
      exact Gives.mk rfl (HBD.out _)
    · obtain ⟨hsm, hl20, h0, hbg, htr⟩ := rightE_iff.1 hr
      rw [hr] at KR
      clear hr hsm hbg
      obtain ⟨hlen, htk⟩ := trimsE_zero htr
      obtain ⟨hg, _⟩ := secE_zero h0
      obtain ⟨hh, hs1, hs2⟩ := givenE_zero hg
      obtain ⟨R1, R2, C1, C2⟩ := rows_bound h0
      obtain ⟨R, hR⟩ : ∃ R : Nat, secRows h scale = (R : Int) := ⟨(secRows h scale).toNat, by omega⟩
      obtain ⟨C, hC⟩ : ∃ C : Nat, secCols h scale = (C : Int) := ⟨(secCols h scale).toNat, by omega⟩
      have hzs := secSet_of_ok hh
      have KD := hide fun (tr' : Sl Int) (htr' : trimsE h.sets.l tr'.l = 0) (y : World) (hy : Below W.heap.size W y) (ha : SlAt y y.heap.size 1 intCells tr') => secDraw_good h hok tr' scale h0 htr' R C hR hC y y.heap.size (Nat.le_refl _) ((HAT.out ⟨y, hy⟩).to (Below.refl _ _) hy.size) ha
      have KZ := hide fun (y : World) (hy : Below W.heap.size W y) => secSize_any h hok scale y W.heap.size hy.size (HAT.out ⟨y, hy⟩)
      rw [secSizeE, if_pos h0, hR, hC] at KZ
      have HSL := hide (HAT.out (After.refl _ W)).sets
      have HEA := hide (HAT.out (After.refl _ W)).each
      have hn0 : ((h.sets.l.length : Int) == 0) = false := by rw [beq_eq_false_iff_ne]; omega
      have hnp : 0 < h.sets.l.length := by omega
      have hR1 : 1 ≤ R := by omega
      have hR2 : R ≤ 200 := by omega
      have hC2 : C ≤ 200 := by omega
      have HTR := hide htr
      have HTK := hide htk
      have HLN := hide hlen
      have HZS := hide hzs
      have htl0 : 0 < trims.l.length := by omega
      have hcT : trims.l.length ≤ trims.cap := (HTT.out (After.refl _ W)).1
      have hcm : trims.cap ≤ 9223372036854775807 := (HTT.out (After.refl _ W)).2.1
      clear htr htk hlen hzs hg hh h0 hR hC hn R1 R2 C1 C2
      -- the index
      obtain ⟨i, hi⟩ : ∃ i : Nat, q % (h.sets.l.length : Int) = (i : Int) := ⟨(q % (h.sets.l.length : Int)).toNat, by have := Int.emod_nonneg q (show (h.sets.l.length : Int) ≠ 0 by omega); omega⟩
      have hiL : i < h.sets.l.length := by have := Int.emod_lt_of_pos q (show 0 < (h.sets.l.length : Int) by omega); omega
      obtain ⟨name, height, ⟨A, cap, l⟩, roofs⟩ := h
      simp only at *
      go_enter Tryd.func6, Tryd.ntmps6
      go_wp2_with fail
      rw [← HW.out]
      refine (KA.out (After.refl _ W)).mono ?_
      rintro e w1 ⟨rfl, y1, rfl⟩
      go_wp2_with fail
      refine (KR.out y1).mono ?_
      rintro e w1 ⟨rfl, y2, rfl⟩
      -- the set
      obtain ⟨b, off, hA, hb, hcell⟩ := HSL.out.2.2 (show 0 < l.length by omega)
      simp only at hA
      subst hA
      have hx : l[i]? = some l[i] := List.getElem?_eq_getElem hiL
      have he := SetD.elem hx hb hcell y2
      have HSN := hide (setN_of hx)
      have hzs := HZS.out l[i] (List.getElem_mem hiL)
      have hti := HTK.out i (by have := HLN.out; omega)
      rw [trimOk, Bool.and_eq_true, decide_eq_true_eq, decide_eq_true_eq, HSN.out] at hti
      have hea := HEA.out l[i] (List.getElem_mem hiL)
      clear hx hcell
      have d0 := hzs.d0
      have d1 := hzs.d1
      have lo0 := hzs.low
      have hi1 := hzs.high
      have lh : l[i].low ≤ l[i].high := by omega
      have hitems := hzs.items
      clear hti hzs
      generalize l[i] = s at *
      obtain ⟨V, hV, hVs, hVb, hVh⟩ := boxed y2.val (.cells #[.string s.name, .int .i64 s.depth, .int .i64 s.low, .int .i64 s.high, .int .i64 s.length, .slice s.lines.A s.lines.l.length s.lines.cap, .int .i64 s.pipe, .int .i64 s.arbor, .int .i64 s.purchase, .int .i64 s.most, .int .i64 s.brake, .slice s.items.A s.items.l.length s.items.cap, .slice s.bricks.A s.bricks.l.length s.bricks.cap] 38)
      have hbx := fun y : After V.heap.size V => SetD.boxed (s := s) hVh (by omega) y
      have hWV : Below W.heap.size W V := y2.below.trans (hVb.mono y2.size)
      have KC := hide (cloneInts trims htl0 (by omega) V ((HTT.out ⟨V, hWV⟩).more hWV.size))
      have hd1 : 0 < s.high - s.low + 1 := by omega
      have m0 : 0 ≤ tv % (s.high - s.low + 1) := Int.emod_nonneg _ (by omega)
      have m1 : tv % (s.high - s.low + 1) < s.high - s.low + 1 := Int.emod_lt_of_pos _ hd1
      have HIW := hide (show SlAt W W.heap.size 7 ItemD.cells s.items from hea.items)
      have hic1 : s.items.l.length ≤ s.items.cap := hea.items.1
      have hic2 : s.items.cap ≤ 9223372036854775807 := hea.items.2.1
      have HOUT := hide (fun (c : Nat) h => outside_of (s := s) (c := c) hs1 d0 h)
      obtain ⟨nm, depth, low, high, len, lines, pipe, arbor, purchase, most, brake, ⟨IA, icap, il⟩, bricks⟩ := s
      simp only at *
      have HV := hide hV
      have HWV := hide hWV
      have HVS := hide (show W.heap.size ≤ V.heap.size from hWV.size)
      have HB := hide (fun y : After V.heap.size V => hbx y)
      clear hV hWV hVh hVb hbx hd1 hea
      go_wp2_with fail
      rw [← HV.out]
      refine KC.out.mono ?_
      rintro e U0 ⟨g, gcap, rfl, hg, hint, hbU⟩
      have hb0 := fun y : After U0.heap.size U0 => HB.out ⟨y.val, hbU.trans (y.below.mono hbU.size)⟩
      simp only at hb0
      have hiT : (i : Int) < (trims.l.length : Int) := by have := HLN.out; omega
      have hi0 : (0 : Int) ≤ (i : Int) := by omega
      have hwg : w.heap.size < g := by have := HVS.out; have := HLT.out; omega
      go_wp2_with fail
      refine wp_tail_first U0.heap.size 15 (by kernel_rfl) (by kernel_rfl) ?_
      simp only [List.take_succ_cons, List.take_zero, List.drop_succ_cons, List.drop_zero]
      repeat (go_big_quiet_step (fail))
      refine wpQuiet_nil ?_
      intro y
      have hgl := hint.lt
      have hy2 := hint.below (w' := y.val) hgl y.below
      have hold := hy2.get (nth_get (show i < trims.l.length by omega))
      have hfz := hy2.frozen i
      have HY2 := hide hy2
      have hWy : Below W.heap.size W y.val := HWV.out.trans ((hbU.trans (y.below.mono hbU.size)).mono HVS.out)
      have hcy := hc ⟨y.val, hWy⟩
      have hby := hb0 y
      simp only at hcy
      have HWY := hide hWy
      clear hint hy2 hWy
      go_wp2_with fail
      have hv1 : low ≤ low + tv % (high - low + 1) := by omega
      have hv2 : low + tv % (high - low + 1) ≤ high := by omega
      clear m0 m1
      generalize low + tv % (high - low + 1) = v at *
      obtain ⟨U, hU⟩ : ∃ U, U = y.val.setCell ⟨g, i, none⟩ (.int .i64 v) := ⟨_, rfl⟩
      have hIU : IntsIn U g gcap (trims.l.set i v) := by rw [hU]; exact HY2.out.set i v
      have hBU : Below V.heap.size V U := by rw [hU]; exact (hbU.trans (y.below.mono hbU.size)).setCell hg _
      have hWU : Below W.heap.size W U := HWV.out.trans (hBU.mono HVS.out)
      have hT1 : SlAt U U.heap.size 1 intCells trims := (HTT.out ⟨U, hWU⟩).more hWU.size
      have hT2 := hIU.slAt
      have htr2 : trimsE l (trims.l.set i v) = 0 := trims_set HTR.out hiL (by rw [HSN.out]; exact hv1) (by rw [HSN.out]; exact hv2)
      have KDA := hide fun y : After U.heap.size U => Gives.after (x := y) (Nat.le_refl _) (KD.out trims HTR.out y.val (hWU.trans (y.below.mono hWU.size)) (hT1.to y.below y.size))
      have KDB' := fun y : After U.heap.size U => Gives.after (x := y) (Nat.le_refl _) (KD.out ⟨some ⟨g, 0, none⟩, gcap, trims.l.set i v⟩ htr2 y.val (hWU.trans (y.below.mono hWU.size)) (hT2.to y.below y.size))
      simp only [List.length_set] at KDB'
      have KDB := hide KDB'
      have KZA := hide fun y : After U.heap.size U => Gives.after (x := y) (Nat.le_refl _) (KZ.out y.val (hWU.trans (y.below.mono hWU.size)))
      have KLA := hide fun y : After U.heap.size U => secLines_any l trims.l scale ((R : Int) - 1) hR1 hR2 hC2 y.val (HTW.out ⟨y.val, hWU.trans (y.below.mono hWU.size)⟩)
      have KLB := hide fun (y : World) (hy : Below U.heap.size U y) => secLines_any l (trims.l.set i v) scale ((R : Int) - 1) hR1 hR2 hC2 y (HTW.out ⟨y, hWU.trans (hy.mono hWU.size)⟩)
      have HMV := hide (fun (r c : Nat) h => secByte_moved (l := l) (tr := trims.l) (tr' := trims.l.set i v) (scale := scale) (H := (R : Int) - 1) (i := i) (r := r) (c := c) (fun k hk => nth_set_ne v hk) h)
      rw [HSN.out] at HMV
      rw [← hU]
      have HBU := hide hBU
      have HWU := hide hWU
      clear hU hIU hBU hWU hT1 hT2 htr2 KDB' hold hfz hcy hby hbU hb0 hv1 hv2 hgl hg hwg HY2 KC KD KZ HWY
      generalize (⟨(secText l trims.l scale ((R : Int) - 1) C R).toArray⟩ : ByteArray) = T1 at *
      generalize (⟨(secText l (trims.l.set i v) scale ((R : Int) - 1) C R).toArray⟩ : ByteArray) = T2 at *
      refine (KDA.out (After.refl _ U)).mono ?_
      rintro e w1 ⟨rfl, y3, rfl⟩
      have hcy3 := hc ⟨y3.val, HWU.out.trans (y3.below.mono HWU.out.size)⟩
      simp only at hcy3
      go_wp2_with fail
      refine (KDB.out y3).mono ?_
      rintro e w1 ⟨rfl, y4, rfl⟩
      have hcy4 := hc ⟨y4.val, HWU.out.trans (y4.below.mono HWU.out.size)⟩
      simp only at hcy4
      clear hcy3
      go_wp2_with fail
      refine (KZA.out y4).mono ?_
      rintro e w1 ⟨rfl, y5, rfl⟩
      clear hcy4
      go_wp2_with fail
      refine (KLA.out y5).mono ?_
      rintro e Z1 ⟨gA, rfl, hrA, hbA⟩
      have hUA : Below U.heap.size U Z1 := y5.below.trans (hbA.mono y5.size)
      have HUA := hide hUA
      have HRA := hide hrA
      clear hUA hrA hbA
      go_wp2_with fail
      refine (KLB.out Z1 HUA.out).mono ?_
      rintro e Z ⟨gB, rfl, hrB, hbB⟩
      have hVZ : Below V.heap.size V Z := HBU.out.trans ((HUA.out.trans (hbB.mono HUA.out.size)).mono HBU.out.size)
      have hWZ : Below W.heap.size W Z := HWV.out.trans (hVZ.mono HVS.out)
      have HROWA := hide (HRA.out.to hbB hbB.size)
      have HROWB := hide hrB
      have HBZ := hide (show ∀ z : After Z.heap.size Z, Below w.heap.size w z.val from fun z => HBD.out ⟨z.val, hWZ.trans (z.below.mono hWZ.size)⟩)
      have HWZ := hide hWZ
      have hbx := fun z : After Z.heap.size Z => HB.out ⟨z.val, hVZ.trans (z.below.mono hVZ.size)⟩
      simp only at hbx
      have hbx0 := hbx (After.refl _ Z)
      clear hrB hbB hVZ hWZ HRA HUA KDA KDB KZA KLA KLB KA KR
      go_wp2_with fail
      refine wp_region_first Z.heap.size (by kernel_rfl) (by kernel_rfl) ?_
      repeat (go_big_quiet_step (fail))
      refine wpQuiet_nil ?_
      intro z
      have hbz := hbx z
      clear hbx0
      go_wp2
      go_loopw [25, 26, 28, 132] (fun lo hi _ v wr => ∃ j : Nat, v = .int .i64 j ∧ j ≤ il.length ∧ lo = .int .i64 (lowTo depth (il.take j)) ∧ hi = .int .i64 (highTo depth (il.take j)) ∧ ∃ z : After Z.heap.size Z, wr = z.val) (fun _ _ _ v _ => il.length - (intOf v).toNat)
      case atStart => exact ⟨0, rfl, Nat.zero_le _, rfl, rfl, z, rfl⟩
      case round =>
        clear hbz
        obtain ⟨j, rfl, hj, rfl, rfl, z, rfl⟩ := hrel
        by_cases hjt : j < il.length
        · obtain ⟨b2, o2, hA2, hb2, hcell2⟩ := HIW.out.2.2 (show 0 < il.length by omega)
          simp only at hA2
          subst hA2
          have hxj : il[j]? = some il[j] := List.getElem?_eq_getElem hjt
          have hej := ItemD.elem hxj hb2 hcell2 ⟨z.val, HWZ.out.trans (z.below.mono HWZ.out.size)⟩
          simp only at hej
          obtain ⟨_, ⟨f0, f1⟩, k0, k1⟩ := hitems il[j] (List.getElem_mem hjt)
          have HN1 := hide (lowTo_next depth hxj)
          have HN2 := hide (highTo_next depth hxj)
          have hmemT : ∀ x ∈ il.take j, x ∈ il := fun x hx => List.mem_of_mem_take hx
          have l0 : -1048576 ≤ lowTo depth (il.take j) := foldMin_ge depth (il.take j) depth (fun x hx => (hitems x (hmemT x hx)).2.2.2) d0 (by omega)
          have l1 : lowTo depth (il.take j) ≤ depth := (foldMin_le depth (il.take j) depth).1
          have h0' : depth ≤ highTo depth (il.take j) := (foldMax_ge depth (il.take j) depth).1
          have h1' : highTo depth (il.take j) ≤ 2097152 := foldMax_le depth (il.take j) depth (fun x hx => (hitems x (hmemT x hx)).2.1.2) d1 (by omega)
          clear hxj hcell2 hb2 hmemT
          generalize lowTo depth (il.take j) = lo at *
          generalize highTo depth (il.take j) = hi' at *
          generalize il[j] = it at *
          obtain ⟨U2, hU2, hU2s, hU2b, hU2h⟩ := boxed z.val (.cells #[.string it.name, .int .i64 it.place, .int .i64 it.width, .int .i64 it.weight, .int .i64 it.hang, .int .i64 it.front, .int .i64 it.back] 40)
          have hix := fun u : After U2.heap.size U2 => ItemD.boxed (i := it) hU2h (by omega) u
          have hZU : Below Z.heap.size Z U2 := z.below.trans (hU2b.mono z.size)
          have hbu := fun u : After U2.heap.size U2 => hbx ⟨u.val, hZU.trans (u.below.mono hZU.size)⟩
          simp only at hbu
          have HZU := hide (show ∀ u : After U2.heap.size U2, ∃ z : After Z.heap.size Z, u.val = z.val from fun u => ⟨⟨u.val, hZU.trans (u.below.mono hZU.size)⟩, rfl⟩)
          have HU2 := hide hU2
          clear hU2 hU2s hU2b hU2h hZU
          go_wp2_with fail
          rw [← HU2.out]
          refine wp_region_first U2.heap.size (by kernel_rfl) (by kernel_rfl) ?_
          repeat (go_big_quiet_step (fail))
          refine wpQuiet_nil ?_
          intro u
          go_wp2
          exact ⟨⟨j + 1, by go_num, by omega, by rw [HN1.out], by rw [HN2.out], HZU.out u⟩, by simp [intOf]; omega⟩
        · obtain rfl : j = il.length := by omega
          simp only [List.take_length]
          have l0 : -1048576 ≤ lowTo depth il := foldMin_ge depth il depth (fun x hx => (hitems x hx).2.2.2) d0 (by omega)
          have l1 : lowTo depth il ≤ depth := (foldMin_le depth il depth).1
          have h0' : depth ≤ highTo depth il := (foldMax_ge depth il depth).1
          have h1' : highTo depth il ≤ 2097152 := foldMax_le depth il depth (fun x hx => (hitems x hx).2.1.2) d1 (by omega)
          obtain ⟨lo, hlo⟩ : ∃ lo, lo = lowTo depth il := ⟨_, rfl⟩
          obtain ⟨hi', hhi⟩ : ∃ hi', hi' = highTo depth il := ⟨_, rfl⟩
          rw [← hlo] at l0 l1 HOUT
          rw [← hhi] at h0' h1' HOUT
          rw [← hlo, ← hhi]
          clear hlo hhi hitems
          have hL0 : 0 ≤ max 0 lo := by omega
          have hL1 : max 0 lo ≤ 1048576 := by omega
          have hq0 : 0 ≤ max 0 lo / scale := Int.ediv_nonneg hL0 (by omega)
          have hq1 : max 0 lo / scale ≤ 1048576 := Int.le_trans (Int.ediv_le_self _ hL0) hL1
          have hp0 : 0 ≤ hi' / scale := Int.ediv_nonneg (by omega) (by omega)
          have hp1 : hi' / scale ≤ 2097152 := Int.le_trans (Int.ediv_le_self _ (by omega)) h1'
          have HOUT := hide HOUT
          go_wp2
          generalize max 0 lo = L at *
          have hh0 : 0 ≤ hi' := by omega
          clear l0 l1 hbx HWZ
          go_loopw [29, 30, 155, 159] (fun _ _ v _ wr => ∃ n : Nat, v = .int .i64 n ∧ n ≤ R ∧ ∃ z : After Z.heap.size Z, wr = z.val) (fun _ _ v _ _ => R - (intOf v).toNat)
          case atStart => exact ⟨0, rfl, Nat.zero_le _, z, rfl⟩
          case round =>
            obtain ⟨n, rfl, hnR, z, rfl⟩ := hrel
            by_cases hnt : n < R
            · obtain ⟨ra, hra, hSA⟩ := HROWA.out.row hnt
              obtain ⟨rb, hrb, hSB⟩ := HROWB.out.row hnt
              have HSA := hide hSA
              have HSB := hide hSB
              have hsa := hSA.2.1
              have hsb := hSB.2.1
              have hn0' : (0 : Int) ≤ (n : Int) := by omega
              have hnI : (n : Int) < (R : Int) := by omega
              clear hSA hSB
              go_wp2
              go_loopw [30, 159] (fun _ v wr => ∃ m : Nat, v = .int .i64 m ∧ m ≤ C ∧ ∃ z : After Z.heap.size Z, wr = z.val) (fun _ v _ => C - (intOf v).toNat)
              case atStart => exact ⟨0, rfl, Nat.zero_le _, z, rfl⟩
              case round =>
                obtain ⟨m, rfl, hmC, z, rfl⟩ := hrel
                by_cases hmt : m < C
                · have hma : m < ra.size := by omega
                  have hmb : m < rb.size := by omega
                  have hraz := fun z : After Z.heap.size Z => hra z
                  have hm0 : (0 : Int) ≤ (m : Int) := by omega
                  have hmA : (m : Int) < (ra.size : Int) := by omega
                  have hmB : (m : Int) < (rb.size : Int) := by omega
                  by_cases hout : (m : Int) < L / scale ∨ hi' / scale < (m : Int)
                  · have hne : ((ra[m].toNat : Int) != (rb[m].toNat : Int)) = false := by
                      rw [HSA.out.2.2 m hma, HSB.out.2.2 m hmb, HMV.out n m (HOUT.out m hout)]; simp
                    clear hout
                    go_wp2_with fail
                    refine wp_region_after z (by kernel_rfl) (by kernel_rfl) ?_
                    repeat (go_big_quiet_step (fail))
                    refine wpQuiet_nil ?_
                    intro z2
                    go_wp2
                    exact ⟨⟨m + 1, by go_num, by omega, z2, rfl⟩, by simp [intOf]; omega⟩
                  · have ho1 : decide ((m : Int) < L / scale) = false := by simp; omega
                    have ho2 : decide (hi' / scale < (m : Int)) = false := by simp; omega
                    rcases Bool.eq_false_or_eq_true ((ra[m].toNat : Int) != (rb[m].toNat : Int)) with hne | hne
                    all_goals
                      clear hout
                      go_wp2_with fail
                      refine wp_region_after z (by kernel_rfl) (by kernel_rfl) ?_
                      repeat (go_big_quiet_step (fail))
                      refine wpQuiet_nil ?_
                      intro z2
                      go_wp2
                      exact ⟨⟨m + 1, by go_num, by omega, z2, rfl⟩, by simp [intOf]; omega⟩
                · go_wp2
                  exact ⟨⟨n + 1, by go_num, by omega, z, rfl⟩, by simp [intOf]; omega⟩
            · go_wp2
              go_ret
              exact Gives.mk rfl (HBZ.out _)
end Go.Proofs.YtliehhnnfpkciaaDoor
