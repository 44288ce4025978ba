/- The lines of a legend (loftblocklaw33.lines, the refused legend, the table of powers of ten), and loftblocklaw33.GridplanLegend: the walk of the law. -/
import Derived.Test.YtliehhnnfpkciaaDoorLegendW
import Derived.Test.YtliehhnnfpkciaaDoorLinesLib
import Derived.Test.YtliehhnnfpkciaaDoorTied
import Derived.Test.YtliehhnnfpkciaaDoorRows
import Derived.Test.YtliehhnnfpkciaaDoorPlanAt
namespace Go.Proofs.YtliehhnnfpkciaaDoor
open Go.RowKit

def linesT (ls : List (List UInt8)) : List UInt8 := ls.flatMap fun x => x ++ [10]
/-- the lines in memory -/
def LinesIn (w : World) (A : Option Addr) (ls : List (List UInt8)) : Prop := 0 < ls.length → ∃ g, A = some ⟨g, 0, none⟩ ∧ g < w.heap.size ∧ ∀ (r : Nat) x, ls[r]? = some x → ∃ s : ByteArray, w.cell? ⟨g, r, none⟩ = some (.string s) ∧ bs s = x
def LinesGiven (w : World) (ls : List (List UInt8)) (e : Ending) (w' : World) : Prop := ∃ A, e = .returned (.slice A ls.length ls.length) ∧ LinesIn w' A ls ∧ Below w.heap.size w w'
set_option maxHeartbeats 1000000 in
theorem linesOf_any (ls : List (List UInt8)) (hcl : ∀ x ∈ ls, ∀ c ∈ x, c ≠ 10) (hsz : (linesT ls).length ≤ 1000000) (w : World) (ht : Tabs w) :
    Calls Tryd.prog 12 #[.string ⟨(linesT ls).toArray⟩] w (LinesGiven w ls) := by
  rcases Nat.eq_zero_or_pos ls.length with h0 | hp
  · have hls : ls = [] := List.eq_nil_of_length_eq_zero h0
    subst hls
    have hn : (⟨(linesT []).toArray⟩ : ByteArray).toList.isEmpty = true := List.isEmpty_iff.2 (toList_nil rfl)
    generalize (⟨(linesT []).toArray⟩ : ByteArray) = T at *
    go_enter Tryd.func12, Tryd.ntmps12
    go_wp2
    go_ret
    exact ⟨none, rfl, fun h => absurd h (by simp), Below.refl _ _⟩
  · obtain ⟨init, hin, hpl⟩ := lines_text (ls := ls) (fun e => by rw [e] at hp; simp at hp) hcl
    have hin' : linesT ls = init ++ [10] := hin
    have hT : bs ⟨(linesT ls).toArray⟩ = init ++ [10] := by rw [bs_data, ← hin']
    have hTs : (⟨(linesT ls).toArray⟩ : ByteArray).size = (linesT ls).length := by simp [ByteArray.size]
    obtain ⟨T, hTe⟩ : ∃ T : ByteArray, T = ⟨(linesT ls).toArray⟩ := ⟨_, rfl⟩
    rw [← hTe] at hT hTs ⊢
    have hn : T.toList.isEmpty = false := by
      rw [show T.toList = bs T from rfl, hT]; simp
    have hz : T.size ≤ 4000000000 := by omega
    have htr := trimSuffix_any T hz w
    have hE : ∀ s : ByteArray, bs s = init → s.size ≤ 4000000000 := fun s hs => by
      have h1 := congrArg List.length hs
      have h2 := congrArg List.length hT
      rw [bs_length] at h1 h2
      simp at h2
      omega
    have hcut := trim_init hT
    have HSP := hide (fun (s : ByteArray) (hs : bs s = init) (y : After w.heap.size w) => split_any 10 s y.val (ht.below y.below) (hE s hs))
    have HTR := hide htr
    have HPL := hide hpl
    have HCUT := hide hcut
    clear hT hTs hTe hpl htr hE hcut hin hin' hp
    go_enter Tryd.func12, Tryd.ntmps12
    go_wp2_with fail
    refine (Gives.first HTR.out).mono ?_
    rintro e w1 ⟨rfl, y1, rfl⟩
    go_wp2_with fail
    refine (HSP.out _ HCUT.out y1).mono ?_
    rintro e w2 ⟨LB, h1, rfl, h2⟩
    have hlen : LB.length = ls.length := by
      rw [HCUT.out, HPL.out] at h1
      have := congrArg List.length h1; simpa using this
    have HR := hide (show LinesIn w2 (some ⟨y1.val.heap.size, 0, none⟩) ls ∧ Below w.heap.size w w2 from by
      rw [HCUT.out, HPL.out] at h1
      have hnew := heap_alloc_new y1.val (.cells (LB.map Value.string).toArray 9)
      refine ⟨fun _ => ⟨_, rfl, by rw [h2]; simp, fun r x hr => ?_⟩, by rw [h2]; exact y1.below.alloc y1.size _⟩
      have hrl : r < LB.length := by rw [hlen]; exact (List.getElem?_eq_some_iff.1 hr).1
      have hx : LB[r]? = some LB[r] := List.getElem?_eq_getElem hrl
      have h3 : bs LB[r] = x := by
        have := congrArg (fun q => q[r]?) h1
        simp only [List.getElem?_map, hx, hr, Option.map_some, Option.some.injEq] at this
        exact this
      exact ⟨LB[r], by rw [h2, Lib.cell_of_heap hnew]; simp [hx], h3⟩)
    clear h1 h2
    rw [hlen]
    clear hlen LB
    go_wp2
    go_ret
    exact ⟨_, rfl, HR.out.1, HR.out.2⟩
set_option maxHeartbeats 1000000 in
theorem legend_bad (h : HouseD) (hok : h.ok) (hh : houseOk h = false) (w : World) (B : Nat) (hB : B ≤ w.heap.size) (hat : HouseD.at_ w B h) :
    Calls Tryd.prog 14 #[.agg #[.string h.name, .int .i64 h.height, .slice h.sets.A h.sets.l.length h.sets.cap, .slice h.roofs.A h.roofs.l.length h.roofs.cap]] w (Gives w (.tuple #[.string ⟨#[]⟩, .int .i64 1])) := by
  obtain ⟨W, hW, hWs, hWb, hWh⟩ := boxed w (.cells #[.string h.name, .int .i64 h.height, .slice h.sets.A h.sets.l.length h.sets.cap, .slice h.roofs.A h.roofs.l.length h.roofs.cap] 25)
  have hc := fun y : After W.heap.size W => HouseD.boxed hWh (by omega) y
  have hatW : HouseD.at_ W W.heap.size h := hat.to (hWb.mono hB) (by omega)
  have KV := hide (Gives.first (houseValid_any h hok W W.heap.size (Nat.le_refl _) hatW))
  rw [hh] at KV
  have HBD := hide fun y : After W.heap.size W => hWb.trans (y.below.mono (by omega))
  have HW := hide hW
  clear hW hWs hWh hWb hat hatW hh hok
  go_enter Tryd.func14, Tryd.ntmps14
  go_wp2_with (go_at_call 38; rw [← HW.out]; refine KV.out.mono ?_; rintro e w' ⟨rfl, y, rfl⟩)
  go_ret2
  exact Gives.mk rfl (HBD.out y)
/-- the lines of a legend -/
def legLines (l : List SetD) (r : List RoofD) : List (List UInt8) := (orderE (dep l) l.length).map (setLnAt l) ++ r.map beamLn
theorem legT_lines (l : List SetD) (r : List RoofD) : legT l r = linesT (legLines l r) := by
  rw [legT, linesT, legLines, List.flatMap_append, List.flatMap_map, List.flatMap_map]; rfl
theorem legLines_length (l : List SetD) (r : List RoofD) : (legLines l r).length = l.length + r.length := by
  rw [legLines, List.length_append, List.length_map, List.length_map, orderE_length]
theorem legLines_clean {l : List SetD} {r : List RoofD} (hl : ∀ s ∈ l, isName s.name = true) (hr : ∀ b ∈ r, isName b.name = true) : ∀ x ∈ legLines l r, ∀ c ∈ x, c ≠ 10 := fun x hx => by
  rcases List.mem_append.1 hx with h | h
  · obtain ⟨i, hi, rfl⟩ := List.mem_map.1 h
    have hlt := orderE_lt _ hi
    have hx : l[i]? = some l[i] := List.getElem?_eq_getElem hlt
    rw [setLnAt_of hx]
    exact clean_setLine (hl _ (List.getElem_mem hlt))
  · obtain ⟨b, hb, rfl⟩ := List.mem_map.1 h
    exact clean_beamLine (hr b hb)
theorem legT_size {l : List SetD} {r : List RoofD} (h5 : l.length ≤ 20) (h6 : r.length ≤ 20) (hl : ∀ s ∈ l, (setLn s).length ≤ 200) (hr : ∀ b ∈ r, (beamLn b).length ≤ 200) : (legT l r).length ≤ 10000 := by
  rw [legT_lines, linesT]
  have key : ∀ ls : List (List UInt8), (∀ x ∈ ls, x.length ≤ 200) → (ls.flatMap fun x => x ++ [10]).length ≤ 201 * ls.length := by
    intro ls
    induction ls with
    | nil => intro _; simp
    | cons x ls ih =>
      intro h
      have h1 := h x (by simp)
      have h2 := ih fun y hy => h y (by simp [hy])
      rw [List.flatMap_cons, List.length_append, List.length_append, List.length_cons, List.length_cons, List.length_nil]
      omega
  refine Nat.le_trans (key _ fun x hx => ?_) (by rw [legLines_length]; omega)
  rcases List.mem_append.1 hx with h | h
  · obtain ⟨i, hi, rfl⟩ := List.mem_map.1 h
    have hlt := orderE_lt _ hi
    have hx : l[i]? = some l[i] := List.getElem?_eq_getElem hlt
    rw [setLnAt_of hx]
    exact hl _ (List.getElem_mem hlt)
  · obtain ⟨b, hb, rfl⟩ := List.mem_map.1 h
    exact hr b hb
/-- of the first lines just one begins with a set's name -/
theorem one_begins {l : List SetD} {j : Nat} {s : SetD} (hl : ∀ s ∈ l, isName s.name = true) (hd : ∀ (i j : Nat) a b, l[i]? = some a → l[j]? = some b → bs a.name = bs b.name → i = j) (hs : l[j]? = some s) :
    (((orderE (dep l) l.length).map (setLnAt l)).filter fun x => (bs s.name ++ atW).isPrefixOf x).length = 1 := by
  have hj : j < l.length := (List.getElem?_eq_some_iff.1 hs).1
  have key := one_line (n := l.length) (N := fun i => match l[i]? with | some s => bs s.name | none => [])
    (T := fun i => match l[i]? with | some s => Lib.itoa s.depth ++ (linesW ++ (Lib.itoa s.lines.l.length ++ (itemsW ++ Lib.itoa s.items.l.length))) | none => []) (f := dep l) (x := j) hj
    (fun i hi => by simp only [List.getElem?_eq_getElem hi]; exact hl _ (List.getElem_mem hi))
    (fun a b ha hb e => by
      simp only [List.getElem?_eq_getElem ha, List.getElem?_eq_getElem hb] at e
      exact hd a b _ _ (List.getElem?_eq_getElem ha) (List.getElem?_eq_getElem hb) e)
  simp only [hs] at key
  have e : (orderE (dep l) l.length).map (setLnAt l) = (orderE (dep l) l.length).map fun i => (match l[i]? with | some s => bs s.name | none => []) ++ atW ++ (match l[i]? with | some s => Lib.itoa s.depth ++ (linesW ++ (Lib.itoa s.lines.l.length ++ (itemsW ++ Lib.itoa s.items.l.length))) | none => []) := by
    refine List.map_congr_left fun i hi => ?_
    have hlt := orderE_lt _ hi
    rw [setLnAt_of (List.getElem?_eq_getElem hlt)]
    simp only [List.getElem?_eq_getElem hlt]
    rfl
  rw [e]
  exact key
/- what the listed table of powers of ten gives at the row's first world -/
theorem pow10_of {W : World} (h : laidMetH Tryd.prog Rows.gridplanLegendRow.laid W) : Pow10 W := by
  rw [MakeChecks.laidMetH_plain _ _ _ (by kernel_rfl)] at h
  have h2 := laidMet.tail (laidMet.tail h)
  exact Lib.tabIs_of_head (k := .u64) (zs := Lib.pow10Tab) (g := 1) (t := 161) (e := 137) (n := 20) (by kernel_rfl) (by kernel_rfl) (by kernel_rfl) (by kernel_rfl) (by kernel_rfl) (by kernel_rfl) h2

theorem bs_plus (a b : ByteArray) : bs (a ++ b) = bs a ++ bs b := by rw [bs_data, bs_data, bs_data]; simp
theorem prefix_any (s p : ByteArray) (w : World) : Calls Tryd.prog 15 #[.string s, .string p] w (Gives w (.bool ((bs p).isPrefixOf (bs s)))) :=
  (Tryd.strings_HasPrefix s p w).mono fun e w' ⟨he, hw⟩ => ⟨by rw [he, bs_data, bs_data]; rfl, by rw [hw]; exact Below.refl _ _⟩
theorem small_sets {h : HouseD} (hs : houseSmall h 5 = true) : h.sets.l.length ≤ 5 ∧ h.roofs.l.length ≤ 15 := by
  rw [houseSmall] at hs
  simp only [Bool.and_eq_true, houseSmallHead, decide_eq_true_eq] at hs
  omega
theorem names_apart {h : HouseD} (hh : houseOk h = true) : ∀ (i j : Nat) a b, h.sets.l[i]? = some a → h.sets.l[j]? = some b → bs a.name = bs b.name → i = j := fun i j a b ha hb e => by
  rw [houseOk, Bool.and_eq_true] at hh
  have h1 := allIdx_iff.1 hh.2 i a ha
  have h2 := allIdx_iff.1 hh.2 j b hb
  rw [setAt, Bool.and_eq_true, decide_eq_true_eq] at h1 h2
  rw [bs_inj e] at h1
  omega
theorem filter_next {l : List (List UInt8)} {q : Nat} {y : List UInt8} (p : List UInt8 → Bool) (h : l[q]? = some y) : ((l.take (q + 1)).filter p).length = ((l.take q).filter p).length + if p y = true then 1 else 0 := by
  rw [List.take_add_one, h, List.filter_append, List.length_append]
  by_cases hp : p y = true <;> simp [hp]
set_option maxRecDepth 100000 in
set_option maxHeartbeats 8000000 in
theorem gridplanLegend_any (h : HouseD) (hok : h.ok) (w : World) (ht : Tabs w) (hp : Pow10 w) (B : Nat) (hB : B ≤ w.heap.size) (hat : HouseD.at_ w B h) :
    Calls Tryd.prog 5 #[.agg #[.string h.name, .int .i64 h.height, .slice h.sets.A h.sets.l.length h.sets.cap, .slice h.roofs.A h.roofs.l.length h.roofs.cap]] w (Gives w (.bool true)) := by
  obtain ⟨W, hW, hWs, hWb, hWh⟩ := boxed w (.cells #[.string h.name, .int .i64 h.height, .slice h.sets.A h.sets.l.length h.sets.cap, .slice h.roofs.A h.roofs.l.length h.roofs.cap] 25)
  have hc := fun y : After W.heap.size W => HouseD.boxed hWh (by omega) y
  have hbd : ∀ y : After W.heap.size W, Below w.heap.size w y.val := fun y => hWb.trans (y.below.mono (by omega))
  have hatW : ∀ y : After W.heap.size W, HouseD.at_ y.val W.heap.size h := fun y => (hat.to (hWb.mono hB) (by omega)).to y.below (Nat.le_refl _)
  have HTW := hide (fun y : After W.heap.size W => (ht.below hWb).below y.below)
  have HPW := hide (fun y : After W.heap.size W => (hp.below hWb).below y.below)
  have KA := hide fun y : After W.heap.size W => Gives.after (x := y) (Nat.le_refl _) (awake33 y.val)
  have KL := hide fun y : After W.heap.size W => Gives.after (x := y) (Nat.le_refl _) (large_any h y.val W.heap.size y.size (hatW y))
  have HW := hide hW
  have HLT := hide (show w.heap.size < W.heap.size by omega)
  have HBD := hide hbd
  have HAT := hide hatW
  clear hW hWs hWh hWb hbd hat hatW ht hp
  cases hsm : houseSmall h 5
  · go_enter Tryd.func5, Tryd.ntmps5
    go_wp2_with fail
    rw [← HW.out]
    refine (KA.out (After.refl _ W)).mono ?_
    rintro e w1 ⟨rfl, y1, rfl⟩
    go_wp2_with fail
    refine (KL.out y1).mono ?_
    rintro e w1 ⟨rfl, y2, rfl⟩
    go_wp2
    go_ret
    exact Gives.mk rfl (HBD.out _)
  · cases hh : houseOk h
    · have KG := hide fun y : After W.heap.size W => Gives.after (x := y) (Nat.le_refl _) (legend_bad h hok hh y.val W.heap.size y.size (HAT.out y))
      clear hh
      go_enter Tryd.func5, Tryd.ntmps5
      go_wp2_with fail
      rw [← HW.out]
      refine (KA.out (After.refl _ W)).mono ?_
      rintro e w1 ⟨rfl, y1, rfl⟩
      go_wp2_with fail
      refine (KL.out y1).mono ?_
      rintro e w1 ⟨rfl, y2, rfl⟩
      go_wp2_with fail
      refine (KG.out y2).mono ?_
      rintro e w1 ⟨rfl, y3, rfl⟩
      go_wp2
      go_ret
      exact Gives.mk (by rfl) (HBD.out _)
    · obtain ⟨hs5, hr15⟩ := small_sets hsm
      have hln := fun s (hs : s ∈ h.sets.l) => (lineFit_of hok hh hs).name
      have hbn := fun s (hs : s ∈ h.roofs.l) => (beamFit_of hok hh hs).name
      have KG := hide fun y : After W.heap.size W => Gives.after (x := y) (Nat.le_refl _) (legend_good h hok hh (by omega) y.val (HPW.out y) W.heap.size y.size (HAT.out y))
      have hsz : (linesT (legLines h.sets.l h.roofs.l)).length ≤ 1000000 := by
        rw [← legT_lines]
        refine Nat.le_trans (legT_size (by omega) (by omega) (fun s hs => ?_) (fun b hb => ?_)) (by omega)
        · have hf := lineFit_of hok hh hs
          exact setLn_size hf.name hf.depth (by have := hf.lines; omega) (by have := hf.items; omega)
        · have hf := beamFit_of hok hh hb
          exact beamLn_size hf.name hf.fro hf.til
      have KN := hide fun y : After W.heap.size W => linesOf_any (legLines h.sets.l h.roofs.l) (legLines_clean hln hbn) hsz y.val (HTW.out y)
      unfold LinesGiven at KN
      rw [legLines_length] at KN
      rw [legT_lines] at KG
      have HONE := hide fun (j : Nat) (s : SetD) (hs : h.sets.l[j]? = some s) => one_begins hln (names_apart hh) hs
      have HNM := hide hln
      have HBN := hide hbn
      have HSL := hide (HAT.out (After.refl _ W)).sets
      have HSR := hide (HAT.out (After.refl _ W)).roofs
      have hlcb : h.sets.l.length ≤ h.sets.cap := (HAT.out (After.refl _ W)).sets.1
      have hmb : h.sets.cap ≤ 9223372036854775807 := (HAT.out (After.refl _ W)).sets.2.1
      have hlcr : h.roofs.l.length ≤ h.roofs.cap := (HAT.out (After.refl _ W)).roofs.1
      have hmr : h.roofs.cap ≤ 9223372036854775807 := (HAT.out (After.refl _ W)).roofs.2.1
      simp only [After.refl] at HSL HSR
      clear hln hbn hsz hh hok HAT
      obtain ⟨name, height, ⟨A, cap, l⟩, ⟨A', cap', l'⟩⟩ := h
      simp only at *
      generalize (⟨(linesT (legLines l l')).toArray⟩ : ByteArray) = T at *
      obtain ⟨n, hn⟩ : ∃ n, n = l.length + l'.length := ⟨_, rfl⟩
      rw [← hn] at KN
      have hne : ((n : Int) != (l.length : Int) + (l'.length : Int)) = false := by rw [hn]; simp
      have hln : l.length ≤ n := by omega
      have hn20 : n ≤ 20 := by omega
      have HN := hide hn
      clear hn
      go_enter Tryd.func5, Tryd.ntmps5
      go_wp2_with fail
      rw [← HW.out]
      refine (KA.out (After.refl _ W)).mono ?_
      rintro e w1 ⟨rfl, y1, rfl⟩
      go_wp2_with fail
      refine (KL.out y1).mono ?_
      rintro e w1 ⟨rfl, y2, rfl⟩
      go_wp2_with fail
      refine (KG.out y2).mono ?_
      rintro e w1 ⟨rfl, y3, rfl⟩
      go_wp2_with fail
      refine (KN.out y3).mono ?_
      rintro e Z ⟨LA, rfl, hlin, hbZ⟩
      have hWZ : Below W.heap.size W Z := y3.below.trans (hbZ.mono y3.size)
      have hcZ := fun z : After Z.heap.size Z => hc ⟨z.val, hWZ.trans (z.below.mono hWZ.size)⟩
      simp only at hcZ
      have HBZ := hide (show ∀ z : After Z.heap.size Z, Below w.heap.size w z.val from fun z => HBD.out ⟨z.val, hWZ.trans (z.below.mono hWZ.size)⟩)
      have HWZ := hide hWZ
      have HLIN := hide hlin
      have hc0 := hcZ (After.refl _ _)
      simp only [After.refl] at hc0
      have HHC := hide hc
      have HCZ := hide hcZ
      clear hlin hbZ hWZ KA KL KG KN hc hcZ
      go_wp2
      go_loopw [7, 8, 10, 45, 55] (fun _ _ _ v _ wr => ∃ k : Nat, v = .int .i64 k ∧ k ≤ l.length ∧ ∃ x : After Z.heap.size Z, wr = x.val) (fun _ _ _ v _ _ => l.length - (intOf v).toNat)
      case atStart => exact ⟨0, rfl, Nat.zero_le _, After.refl _ _, rfl⟩
      case round =>
        clear hc0
        obtain ⟨k, rfl, hk, x, rfl⟩ := hrel
        have hcx := HCZ.out x
        by_cases hlt : k < l.length
        · obtain ⟨b, off, hA, hb, hcell⟩ := HSL.out.2.2 (show 0 < l.length by omega)
          simp only at hA
          subst hA
          have hx : l[k]? = some l[k] := List.getElem?_eq_getElem hlt
          have hWx : Below W.heap.size W x.val := HWZ.out.trans (x.below.mono HWZ.out.size)
          have hwx : w.heap.size < x.val.heap.size := Nat.lt_of_lt_of_le HLT.out hWx.size
          have he := SetD.elem hx hb hcell ⟨x.val, hWx⟩
          simp only at he
          have HONEk := hide (HONE.out k _ hx)
          have hsz := isName_size (HNM.out _ (List.getElem_mem hlt))
          clear hx hcell
          generalize l[k] = s at *
          obtain ⟨V, hV, hVs, hVb, hVh⟩ := boxed x.val (.cells #[.string s.name, .int .i64 s.depth, .int .i64 s.low, .int .i64 s.high, .int .i64 s.length, .slice s.lines.A s.lines.l.length s.lines.cap, .int .i64 s.pipe, .int .i64 s.arbor, .int .i64 s.purchase, .int .i64 s.most, .int .i64 s.brake, .slice s.items.A s.items.l.length s.items.cap, .slice s.bricks.A s.bricks.l.length s.bricks.cap] 38)
          have hbx := fun y : After V.heap.size V => SetD.boxed (s := s) hVh (by omega) y
          have hZV : Below Z.heap.size Z V := x.below.trans (hVb.mono x.size)
          have hcV := fun y : After V.heap.size V => HCZ.out ⟨y.val, hZV.trans (y.below.mono hZV.size)⟩
          simp only at hcV
          obtain ⟨g, hgA, hgZ, hrows⟩ := HLIN.out (by rw [legLines_length]; omega)
          subst hgA
          have HROW := hide (show ∀ q, q < l.length → ∃ (t : ByteArray), ((orderE (dep l) l.length).map (setLnAt l))[q]? = some (bs t) ∧ ∀ y : After V.heap.size V, y.val.cell? ⟨g, q, none⟩ = some (.string t) from fun q hq => by
            have hq2 : q < ((orderE (dep l) l.length).map (setLnAt l)).length := by rw [List.length_map, orderE_length]; exact hq
            obtain ⟨t, h1, h2⟩ := hrows q _ (show (legLines l l')[q]? = some _ by rw [legLines, List.getElem?_append_left hq2]; exact List.getElem?_eq_getElem hq2)
            refine ⟨t, by rw [h2]; exact List.getElem?_eq_getElem hq2, fun y => ?_⟩
            exact ((hZV.trans (y.below.mono hZV.size)).cell (p := ⟨g, q, none⟩) hgZ).trans h1)
          have HXV := hide (show ∀ y : After V.heap.size V, ∃ z : After Z.heap.size Z, y.val = z.val from fun y => ⟨⟨y.val, hZV.trans (y.below.mono hZV.size)⟩, rfl⟩)
          have HV := hide hV
          have hV0 := hbx (After.refl _ _)
          have hcV0 := hcV (After.refl _ _)
          simp only [After.refl] at hV0 hcV0
          have HPF : Hid (∀ (t : ByteArray) (y : After V.heap.size V), Calls Tryd.prog 15 #[.string t, .string (s.name ++ ⟨#[32, 97, 116, 32]⟩)] y.val fun e w'' => e = .returned (.bool ((bs s.name ++ atW).isPrefixOf (bs t))) ∧ ∃ z : After V.heap.size V, w'' = z.val) := hide fun t y => by
            have h1 := Gives.after (x := y) (Nat.le_refl _) (prefix_any t (s.name ++ ⟨#[32, 97, 116, 32]⟩) y.val)
            rw [show bs (s.name ++ ⟨#[32, 97, 116, 32]⟩) = bs s.name ++ atW from by rw [bs_plus, bs_data ⟨#[32, 97, 116, 32]⟩]; rfl] at h1
            exact h1
          clear hV hVs hVb hVh hrows hb hWx hZV
          have HFL := hide (show ((orderE (dep l) l.length).map (setLnAt l)).length = l.length by rw [List.length_map, orderE_length])
          generalize (orderE (dep l) l.length).map (setLnAt l) = fl at *
          go_wp2
          rw [← HV.out]
          go_loopw [8, 10, 55] (fun c _ v wr => ∃ q : Nat, v = .int .i64 q ∧ q ≤ l.length ∧ c = .int .i64 (((fl.take q).filter fun x => (bs s.name ++ atW).isPrefixOf x).length : Nat) ∧ ∃ y : After V.heap.size V, wr = y.val) (fun _ _ v _ => l.length - (intOf v).toNat)
          case atStart => exact ⟨0, rfl, Nat.zero_le _, rfl, After.refl _ _, rfl⟩
          case round =>
            clear hV0 hcV0
            obtain ⟨q, rfl, hq, rfl, y, rfl⟩ := hrel
            have hby := hbx y
            have hcy := hcV y
            have hcount : ((fl.take q).filter fun x => (bs s.name ++ atW).isPrefixOf x).length ≤ q := Nat.le_trans (List.length_filter_le _ _) (by rw [List.length_take]; omega)
            by_cases hqt : q < l.length
            · obtain ⟨t, hfq, htc⟩ := HROW.out q hqt
              have hty := htc y
              have HNX := hide (filter_next (fun x => (bs s.name ++ atW).isPrefixOf x) hfq)
              have KP := hide (HPF.out t y)
              generalize ((fl.take q).filter fun x => (bs s.name ++ atW).isPrefixOf x).length = ct at *
              clear hfq htc
              rcases Bool.eq_false_or_eq_true ((bs s.name ++ atW).isPrefixOf (bs t)) with hpt | hpt
              · rw [hpt] at KP
                have HPT := hide hpt
                clear hpt
                go_wp2_with fail
                refine KP.out.mono ?_
                rintro e w' ⟨rfl, y2, rfl⟩
                go_wp2
                exact ⟨⟨q + 1, by go_num, by omega, by rw [HNX.out, if_pos HPT.out]; go_num, y2, rfl⟩, by simp [intOf]; omega⟩
              · rw [hpt] at KP
                have HPT := hide hpt
                clear hpt
                go_wp2_with fail
                refine KP.out.mono ?_
                rintro e w' ⟨rfl, y2, rfl⟩
                go_wp2
                exact ⟨⟨q + 1, by go_num, by omega, by rw [HNX.out, if_neg (by rw [HPT.out]; simp)]; rfl, y2, rfl⟩, by simp [intOf]; omega⟩
            · obtain rfl : q = l.length := by omega
              have hone : ((fl.take l.length).filter fun x => (bs s.name ++ atW).isPrefixOf x).length = 1 := by
                rw [List.take_of_length_le (by have := HFL.out; omega)]; exact HONEk.out
              rw [hone]
              clear hone hcount
              go_wp2
              exact ⟨⟨k + 1, by go_num, by omega, HXV.out y⟩, by simp [intOf]; omega⟩
        · have hkl : k = l.length := by omega
          subst hkl
          go_wp2
          go_loopw [11, 12, 73] (fun _ _ v wr => ∃ j : Nat, v = .int .i64 j ∧ j ≤ l'.length ∧ ∃ x : After Z.heap.size Z, wr = x.val) (fun _ _ v _ => l'.length - (intOf v).toNat)
          case atStart => exact ⟨0, rfl, Nat.zero_le _, x, rfl⟩
          case round =>
            clear hcx
            obtain ⟨j, rfl, hj, x, rfl⟩ := hrel
            by_cases hjt : j < l'.length
            · obtain ⟨b, off, hA, hb, hcell⟩ := HSR.out.2.2 (show 0 < l'.length by omega)
              simp only at hA
              subst hA
              have hx : l'[j]? = some l'[j] := List.getElem?_eq_getElem hjt
              have hWx : Below W.heap.size W x.val := HWZ.out.trans (x.below.mono HWZ.out.size)
              have he := RoofD.elem hx hb hcell ⟨x.val, hWx⟩
              simp only at he
              have hsz := isName_size (HBN.out _ (List.getElem_mem hjt))
              obtain ⟨g, hgA, hgZ, hrows⟩ := HLIN.out (by rw [legLines_length]; omega)
              subst hgA
              obtain ⟨t, h1, h2⟩ := hrows (l.length + j) (beamLn l'[j]) (by
                rw [legLines, List.getElem?_append_right (by rw [List.length_map, orderE_length]; omega), List.length_map, orderE_length, Nat.add_sub_cancel_left, List.getElem?_map, hx]; rfl)
              have hpre := beam_prefix (bs l'[j].name) l'[j].fro l'[j].til
              change (beamW ++ bs l'[j].name ++ fromW).isPrefixOf (beamLn l'[j]) = true at hpre
              rw [← h2] at hpre
              clear h2 hx hcell
              generalize l'[j] = s at *
              obtain ⟨V, hV, hVs, hVb, hVh⟩ := boxed x.val (.cells #[.string s.name, .int .i64 s.fro, .int .i64 s.til, .int .i64 s.most] 48)
              have hbx := fun y : After V.heap.size V => RoofD.boxed (i := s) hVh (by omega) y
              have hZV : Below Z.heap.size Z V := x.below.trans (hVb.mono x.size)
              have hcV := fun y : After V.heap.size V => HCZ.out ⟨y.val, hZV.trans (y.below.mono hZV.size)⟩
              simp only at hcV
              have htV := fun y : After V.heap.size V => ((hZV.trans (y.below.mono hZV.size)).cell (p := ⟨g, l.length + j, none⟩) hgZ).trans h1
              have HXV := hide (show ∀ y : After V.heap.size V, ∃ z : After Z.heap.size Z, y.val = z.val from fun y => ⟨⟨y.val, hZV.trans (y.below.mono hZV.size)⟩, rfl⟩)
              have HPF : Hid (∀ (y : After V.heap.size V), Calls Tryd.prog 15 #[.string t, .string (⟨#[98, 101, 97, 109, 32]⟩ ++ s.name ++ ⟨#[32, 102, 114, 111, 109, 32]⟩)] y.val fun e w'' => e = .returned (.bool true) ∧ ∃ z : After V.heap.size V, w'' = z.val) := hide fun y => by
                have h3 := Gives.after (x := y) (Nat.le_refl _) (prefix_any t (⟨#[98, 101, 97, 109, 32]⟩ ++ s.name ++ ⟨#[32, 102, 114, 111, 109, 32]⟩) y.val)
                rw [show bs (⟨#[98, 101, 97, 109, 32]⟩ ++ s.name ++ ⟨#[32, 102, 114, 111, 109, 32]⟩) = beamW ++ bs s.name ++ fromW from by rw [bs_plus, bs_plus, bs_data ⟨#[98, 101, 97, 109, 32]⟩, bs_data ⟨#[32, 102, 114, 111, 109, 32]⟩]; rfl, hpre] at h3
                exact h3
              have i0 : (0 : Int) ≤ (l.length : Int) + (j : Int) := by omega
              have i1 : (l.length : Int) + (j : Int) < (n : Int) := by have := HN.out; omega
              have i2 : ((l.length : Int) + (j : Int)).toNat = l.length + j := by omega
              have i3 : IntKind.i64.wrap ((l.length : Int) + (j : Int)) = (l.length : Int) + (j : Int) := by rw [IntKind.wrap_i64]; omega
              have HV := hide hV
              clear hV hVs hVb hVh hrows hb hWx hZV hpre h1
              go_wp2_with fail
              rw [← HV.out]
              refine wp_region_first V.heap.size (by kernel_rfl) (by kernel_rfl) ?_
              repeat (go_big_quiet_step ((go_at_call 15; exact HPF.out _)))
              refine wpQuiet_nil ?_
              intro y
              clear i0 i1 i2 i3
              go_wp2
              exact ⟨⟨j + 1, by go_num, by omega, HXV.out y⟩, by simp [intOf]; omega⟩
            · go_wp2
              go_ret
              exact Gives.mk rfl (HBZ.out _)
end Go.Proofs.YtliehhnnfpkciaaDoor
