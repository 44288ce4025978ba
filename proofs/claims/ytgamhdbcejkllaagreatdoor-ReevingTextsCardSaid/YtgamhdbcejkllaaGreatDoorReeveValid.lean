/- reeving.Valid: its names in a map. -/
import Derived.Test.YtgamhdbcejkllaaGreatDoorReeveRope
import Derived.Test.YtgamhdbcejkllaaGreatDoorSeen
namespace Go.Proofs.YtgamhdbcejkllaaGreatDoor
open Go.RowKit

/-! ### names -/
theorem idxFrom_le {α : Type} {p : α → Bool} : ∀ (l : List α) (i j : Nat) (y : α), l[j]? = some y → p y = true → idxFrom p i l ≤ ((i + j : Nat) : Int)
  | [], _, _, _, h, _ => by simp at h
  | z :: l, i, 0, y, h, hp => by simp at h; subst h; simp [idxFrom, hp]
  | z :: l, i, j + 1, y, h, hp => by
    rw [idxFrom]
    cases hz : p z
    · have := idxFrom_le l (i + 1) j y (by simpa using h) hp
      simp only [Bool.false_eq_true, if_false]; omega
    · simp only [if_true]; omega
theorem idx_at {α : Type} {p : α → Bool} {l : List α} {k : Nat} {x : α} (h : l[k]? = some x) (hp : p x = true) : decide (idx p l = (k : Int)) = !(l.take k).any p := by
  cases ha : (l.take k).any p
  · have hn : ∀ j y, j < k → l[j]? = some y → p y = false := fun j y hj hy => by
      have := List.any_eq_false.1 ha y (List.mem_iff_getElem?.2 ⟨j, by rw [List.getElem?_take_of_lt hj]; exact hy⟩)
      simpa using this
    rw [idx_some h hp hn]; simp
  · obtain ⟨y, hy, hpy⟩ := List.any_eq_true.1 ha
    obtain ⟨j, hj, e⟩ := List.getElem_of_mem hy
    rw [List.length_take] at hj
    have := idxFrom_le l 0 j y (by rw [← e, List.getElem_take, List.getElem?_eq_getElem]) hpy
    exact decide_eq_false (by unfold idx; omega)
theorem idx_neg {α : Type} (p : α → Bool) (l : List α) : decide (idx p l < 0) = !l.any p := by
  rw [← idx_nonneg p l]
  by_cases h : idx p l < 0
  · rw [decide_eq_true h, decide_eq_false (by omega)]; rfl
  · rw [decide_eq_false h, decide_eq_true (by omega)]; rfl
def namesB (l : List BlockD) (k : Nat) : List ByteArray := ((l.take k).map (·.name)).reverse
def namesR (l : List RopeD) (k : Nat) : List ByteArray := ((l.take k).map (·.name)).reverse
theorem namesB_next {l : List BlockD} {k : Nat} {x : BlockD} (h : l[k]? = some x) : namesB l (k + 1) = x.name :: namesB l k := by
  rw [namesB, List.take_add_one, h]; simp [namesB]
theorem namesR_next {l : List RopeD} {k : Nat} {x : RopeD} (h : l[k]? = some x) : namesR l (k + 1) = x.name :: namesR l k := by
  rw [namesR, List.take_add_one, h]; simp [namesR]
theorem inNames_B (l : List BlockD) (k : Nat) (s : ByteArray) : inNames s (namesB l k) = (l.take k).any (fun b => sameName b.name s) := by
  rw [inNames, namesB, List.any_reverse, List.any_map]; rfl
theorem inNames_R (l : List RopeD) (k : Nat) (s : ByteArray) : inNames s (namesR l k) = (l.take k).any (fun b => sameName b.name s) := by
  rw [inNames, namesR, List.any_reverse, List.any_map]; rfl
theorem inNames_app (xs ys : List ByteArray) (s : ByteArray) : inNames s (xs ++ ys) = (inNames s xs || inNames s ys) := by rw [inNames, List.any_append]; rfl
theorem blockAt_eq {l : List BlockD} {k : Nat} {x : BlockD} (h : l[k]? = some x) : blockAt l k x = ((isName x.name && !inNames x.name (namesB l k)) && betweenB x.weight 0 16777216) := by
  rw [blockAt, findB, idx_at h (sameName_refl _), inNames_B]
theorem ropeAt_eq {bl : List BlockD} {l : List RopeD} {k : Nat} {x : RopeD} (h : l[k]? = some x) : ropeAt bl l k x = ((isName x.name && !inNames x.name (namesR l k ++ namesB bl bl.length)) && ropeOk bl x) := by
  rw [ropeAt, findR, idx_at h (sameName_refl _), findB, idx_neg, inNames_app, inNames_R, inNames_B, List.take_length]
  cases isName x.name <;> cases List.any _ _ <;> cases List.any _ _ <;> rfl
theorem hauls_next {l : List RopeD} {k : Nat} {x : RopeD} (h : l[k]? = some x) : hauls (l.take (k + 1)) = hauls (l.take k) + (if x.hauled then 1 else 0) := by
  rw [hauls, hauls, List.take_add_one, h, List.filter_append, List.length_append]
  cases hx : x.hauled <;> simp [hx]
theorem hauls_le (l : List RopeD) (k : Nat) : hauls (l.take k) ≤ k := by
  rw [hauls]; exact Nat.le_trans (List.length_filter_le _ _) (by rw [List.length_take]; omega)
theorem sysOk_head {s : SysD} (h : sysHead s = false) : sysOk s = false := by rw [sysOk, h]; rfl
theorem sysOk_block {s : SysD} {k : Nat} {x : BlockD} (h : s.blocks.l[k]? = some x) (hn : blockAt s.blocks.l k x = false) : sysOk s = false := by rw [sysOk, allIdx_no h hn]; simp
theorem sysOk_rope {s : SysD} {k : Nat} {x : RopeD} (h : s.ropes.l[k]? = some x) (hn : ropeAt s.blocks.l s.ropes.l k x = false) : sysOk s = false := by rw [sysOk, allIdx_no h hn]; simp
theorem sysOk_yes {s : SysD} {j k : Nat} (h : sysHead s = true) (hj : s.blocks.l.length ≤ j) (hb : UpTo (blockAt s.blocks.l) s.blocks.l j) (hk : s.ropes.l.length ≤ k) (hr : UpTo (ropeAt s.blocks.l s.ropes.l) s.ropes.l k) : sysOk s = decide (hauls s.ropes.l ≤ 1) := by
  rw [sysOk, h, hb.all hj, hr.all hk]; rfl
theorem sysHead_iff {s : SysD} : sysHead s = true ↔ betweenB (s.blocks.l.length : Int) 1 6 = true ∧ betweenB (s.ropes.l.length : Int) 1 6 = true := by rw [sysHead, Bool.and_eq_true]

theorem Below.byMap {w w' : World} {b B : Nat} (h : w.grownBy w' (some b)) (hb : B ≤ b) (hB : B ≤ w.heap.size) : Below B w w' :=
  ⟨h.os, h.tape, h.output, h.size, fun k hk => h.block k (by omega) (by simp; omega)⟩

set_option maxRecDepth 100000 in
set_option maxHeartbeats 2000000 in
theorem add_any (s : ByteArray) (hs : s.size ≤ maxLen) (tc mb : Nat) (xs : List ByteArray) (hn : xs.length < maxLen) (w : World) (hc : w.cell? ⟨tc, 0, none⟩ = some (.map (some mb))) (htc : tc < w.heap.size) (hseen : Seen w mb xs) :
    Calls Tryz.prog 34 #[.string s, .pointer (some ⟨tc, 0, none⟩)] w fun e w' => e = .returned (.bool (isName s && !inNames s xs)) ∧ Seen w' mb (s :: xs) ∧ w.grownBy w' (some mb) := by
  have hcx := fun y : After w.heap.size w => y.cell hc htc
  have hlk := fun y : After w.heap.size w => (hseen.below y.below).lookup s hs
  have HS := hide hseen
  have HC := hide hc
  clear hseen hc
  rcases Bool.eq_false_or_eq_true (isName s) with hi | hi
  all_goals
    go_enter Tryz.func34, Tryz.ntmps34
    go_wp2_with (first
      | (go_at_call 35; refine (Gives.first (isName_any s w hs)).mono ?_; rintro e w' ⟨rfl, y, rfl⟩)
      | (at_mapUpdate; refine wpList_seen (HS.out.below y.below) s hs hn rfl _ _ _ rfl rfl rfl rfl ?_; intro w2 hs2 hg2))
    go_ret
    refine ⟨by simp [hi], hs2, ?_⟩
    have hy := y.below
    exact ⟨hg2.os.trans hy.os, hg2.tape.trans hy.tape, hg2.output.trans hy.output, Nat.le_trans hy.size hg2.size, fun k hk hne => (hg2.block k (Nat.lt_of_lt_of_le hk hy.size) hne).trans (hy.block k hk)⟩
/-- where the walk of Valid stands: the map of the names -/
structure VSt (W : World) (xs : List ByteArray) (x : World) : Prop where
  bel : Below W.heap.size W x
  cell : x.cell? ⟨W.heap.size + 1, 0, none⟩ = some (.map (some W.heap.size))
  seen : Seen x W.heap.size xs
  size : W.heap.size + 2 ≤ x.heap.size
theorem VSt.more {W x y : World} {xs : List ByteArray} (h : VSt W xs x) (hb : Below x.heap.size x y) : VSt W xs y := by
  have h1 := h.bel.size
  have h2 := h.size
  have h3 := hb.size
  exact ⟨h.bel.trans (hb.mono h1), (hb.cell (p := ⟨W.heap.size + 1, 0, none⟩) (by simp only; omega)).trans h.cell, h.seen.below hb, by omega⟩
theorem VSt.add {W x y : World} {xs ys : List ByteArray} (h : VSt W xs x) (hg : x.grownBy y (some W.heap.size)) (hs : Seen y W.heap.size ys) : VSt W ys y := by
  have h1 := h.bel.size
  have h2 := h.size
  have h3 := hg.size
  exact ⟨h.bel.trans (Below.byMap hg (Nat.le_refl _) h1), hg.cell h.cell (by simp), hs, by omega⟩
theorem VSt.made (W : World) : VSt W [] ((W.alloc (.map #[] 0)).alloc (.cells #[.map (some W.heap.size)] 82)) :=
  ⟨((Below.refl _ _).alloc (Nat.le_refl _) _).alloc (by simp) _, by
    have := heap_alloc_new (W.alloc (.map #[] 0)) (.cells #[.map (some W.heap.size)] 82)
    have e : (W.alloc (.map #[] 0)).heap.size = W.heap.size + 1 := by simp
    rw [e] at this
    rw [World.cell?]; simp only [this]; rfl, (Seen.made W).alloc _, by simp⟩

set_option maxRecDepth 100000 in
set_option maxHeartbeats 8000000 in
theorem validS_any (s : SysD) (hok : s.ok) (w : World) (B : Nat) (hB : B ≤ w.heap.size) (hat : SysD.at_ w B s) :
    Calls Tryz.prog 15 #[.agg #[.slice s.blocks.A s.blocks.l.length s.blocks.cap, .slice s.ropes.A s.ropes.l.length s.ropes.cap]] w (Gives w (.bool (sysOk s))) := by
  have hmm := @run_makeMap Tryz.prog
  obtain ⟨W, hW, hWs, hWb, hWh⟩ := boxed w (.cells #[.slice s.blocks.A s.blocks.l.length s.blocks.cap, .slice s.ropes.A s.ropes.l.length s.ropes.cap] 25)
  have hc := fun y : After W.heap.size W => SysD.boxed hWh (by omega) y
  have hbd : ∀ y : After W.heap.size W, Below w.heap.size w y.val := fun y => hWb.trans (y.below.mono (by omega))
  have hatW : SysD.at_ W W.heap.size s := hat.to (hWb.mono hB) (by omega)
  have hrope := fun (v : World) (hv : Below W.heap.size W v) (r : RopeD) (hk : r.ok) (hr : r ∈ s.ropes.l) => rope_any s r hk v W.heap.size hv.size (hatW.to hv (Nat.le_refl _)) (RopeD.at_.to (hatW.each r hr) hv (Nat.le_refl _))
  have HNH := hide (sysOk_head (s := s))
  have HNB := hide (fun (k : Nat) (x : BlockD) hx hn => sysOk_block (s := s) (k := k) (x := x) hx hn)
  have HNR := hide (fun (k : Nat) (x : RopeD) hx hn => sysOk_rope (s := s) (k := k) (x := x) hx hn)
  have HY := hide (fun (j k : Nat) h hj hb hk hr => sysOk_yes (s := s) (j := j) (k := k) h hj hb hk hr)
  have HHD := hide (sysHead_iff (s := s))
  obtain ⟨res, hres⟩ : ∃ res, res = sysOk s := ⟨_, rfl⟩
  rw [← hres] at HNH HNB HNR HY ⊢
  obtain ⟨hd, hhd⟩ : ∃ hd, hd = sysHead s := ⟨_, rfl⟩
  rw [← hhd] at HNH HY HHD
  have hlcb : s.blocks.l.length ≤ s.blocks.cap := hat.blocks.1
  have hmb : s.blocks.cap ≤ 9223372036854775807 := hat.blocks.2.1
  have hlcr : s.ropes.l.length ≤ s.ropes.cap := hat.ropes.1
  have hmr : s.ropes.cap ≤ 9223372036854775807 := hat.ropes.2.1
  have HSB := hide hatW.blocks
  have HSR := hide hatW.ropes
  have HRO := hide hrope
  have HW := hide hW
  have HWs := hide hWs
  have HBD := hide hbd
  have HOB := hide hok.blocks
  have HOR := hide hok.ropes
  have YR : W = (After.refl W.heap.size W).val := rfl
  have hcM := fun y : After W.heap.size W => hc ⟨_, y.below.trans ((VSt.made y.val).bel.mono y.size)⟩
  simp only at hcM
  have HCU := hide (fun (y : After W.heap.size W) (z : World) (hz : Below y.val.heap.size y.val z) => hc ⟨z, y.below.trans (hz.mono y.size)⟩)
  have HBU := hide (fun (y : After W.heap.size W) (z : World) (hz : Below y.val.heap.size y.val z) => (y.below.trans (hz.mono y.size) : Below W.heap.size W z))
  clear hW hWs hWh hWb hbd hatW hat hok hrope hres hhd
  obtain ⟨⟨A, cap, l⟩, ⟨A', cap', l'⟩⟩ := s
  simp only at *
  rcases Bool.eq_false_or_eq_true (betweenB (l.length : Int) 1 6) with hb1 | hb1
  · rcases Bool.eq_false_or_eq_true (betweenB (l'.length : Int) 1 6) with hb2 | hb2
    · have HDT := hide (HHD.out.2 ⟨hb1, hb2⟩)
      obtain ⟨hl1, hl6⟩ := betweenB_iff.1 hb1
      obtain ⟨hr1, hr6⟩ := betweenB_iff.1 hb2
      go_enter Tryz.func15, Tryz.ntmps15
      go_wp2_with (first
        | (go_at_call 33; rw [← HW.out]; refine (Gives.first (within_any _ _ _ W)).mono ?_; rintro e w' ⟨rfl, y, rfl⟩)
        | (go_at_call 33; refine (Gives.after (Nat.le_refl _) (within_any _ _ _ _)).mono ?_; rintro e w' ⟨rfl, y2, rfl⟩))
      obtain ⟨U, hU⟩ : ∃ U, U = y2.val := ⟨_, rfl⟩
      have hVU := VSt.made y2.val
      rw [← hU] at hVU ⊢
      have HCU2 := hide (HCU.out y2)
      have HBU2 := hide (HBU.out y2)
      rw [← hU] at HCU2 HBU2
      clear hU hcM hc y y2 HCU HBU hmm
      go_loopw [27] (fun v wr => ∃ k : Nat, v = .int .i64 k ∧ k ≤ l.length ∧ Hid (UpTo (blockAt l) l k) ∧ Hid (VSt U (namesB l k) wr)) (fun v _ => l.length - (intOf v).toNat)
      case atStart => exact ⟨0, rfl, Nat.zero_le _, UpTo.zero _ _, hVU⟩
      case round =>
        obtain ⟨k, rfl, hk, hall, st⟩ := hrel
        have hcx := HCU2.out wr st.out.bel
        by_cases hlt : k < l.length
        · obtain ⟨b, off, hA, hb, hcell⟩ := HSB.out.2.2 (show 0 < l.length by omega)
          simp only at hA
          subst hA
          have hx : l[k]? = some l[k] := List.getElem?_eq_getElem hlt
          have hnm := (HOB.out l[k] (List.getElem_mem hlt)).name
          have he := BlockD.elem hx hb hcell ⟨wr, HBU2.out wr st.out.bel⟩
          simp only at he
          have HX := hide hx
          clear hcell hx
          obtain ⟨V, hV, hVs, hVb, hVh⟩ := boxed wr (.cells #[.string l[k].name, .int .i64 l[k].weight] 50)
          have stV := st.out.more hVb
          have HSTV := hide stV
          have HV := hide hV
          have HVh := hide hVh
          have hwrU := st.out.size
          have hkk : (namesB l k).length < maxLen := by rw [namesB]; simp [maxLen]; omega
          have hadd := add_any l[k].name hnm (U.heap.size + 1) U.heap.size (namesB l k) hkk V stV.cell (by have := stV.size; omega) stV.seen
          rw [← namesB_next HX.out] at hadd
          have HADD := hide hadd
          clear hV hVb hVh stV hadd hkk
          have HBA := hide (blockAt_eq HX.out)
          rcases Bool.eq_false_or_eq_true (isName l[k].name && !inNames l[k].name (namesB l k)) with hi | hi
          all_goals
            rw [hi] at HADD
            rw [hi] at HBA
          · rcases Bool.eq_false_or_eq_true (betweenB l[k].weight 0 16777216) with hw | hw
            all_goals
              rw [hw] at HBA
              go_wp2_with (first
                | (go_at_call 34
                   rw [← HV.out]
                   refine HADD.out.mono ?_
                   rintro e w2 ⟨rfl, hsn, hg⟩
                   have st2 := HSTV.out.add hg hsn
                   have hcx2 := HCU2.out w2 st2.bel
                   have hV2 : w2.heap[wr.heap.size]? = some (.cells #[.string l[k].name, .int .i64 l[k].weight] 50 (0, 0)) := (hg.block _ (by omega) (by simp; omega)).trans HVh.out
                   have hlt2 : wr.heap.size < w2.heap.size := Nat.lt_of_lt_of_le (show wr.heap.size < V.heap.size by omega) hg.size
                   have he2 := BlockD.boxed hV2 hlt2 (After.refl w2.heap.size w2)
                   simp only [After.refl] at he2
                   have ST2 := hide st2
                   clear hsn hg st2 hV2)
                | (go_at_call 33; refine (Gives.first (within_any _ _ _ _)).mono ?_; rintro e w' ⟨rfl, y3, rfl⟩))
            · exact ⟨⟨k + 1, by go_num, by omega, hall.out.next HX.out HBA.out, ST2.out.more y3.below⟩, by simp [intOf]; omega⟩
            · go_ret
              exact Gives.mk (congrArg Value.bool (HNB.out k l[k] HX.out HBA.out).symm) (HBD.out ⟨_, HBU2.out _ (ST2.out.more y3.below).bel⟩)
          · go_wp2_with (first
                | (go_at_call 34
                   rw [← HV.out]
                   refine HADD.out.mono ?_
                   rintro e w2 ⟨rfl, hsn, hg⟩
                   have ST2 := hide (HSTV.out.add hg hsn)
                   clear hsn hg))
            go_ret
            exact Gives.mk (congrArg Value.bool (HNB.out k l[k] HX.out HBA.out).symm) (HBD.out ⟨_, HBU2.out _ ST2.out.bel⟩)
        · have hkl : k = l.length := by omega
          subst hkl
          go_wp2
          go_loopw [7, 46] (fun u v wr => ∃ k' : Nat, v = .int .i64 k' ∧ u = .int .i64 ((hauls (l'.take k') : Nat) : Int) ∧ k' ≤ l'.length ∧ Hid (UpTo (ropeAt l l') l' k') ∧ Hid (VSt U (namesR l' k' ++ namesB l l.length) wr)) (fun _ v _ => l'.length - (intOf v).toNat)
          case atStart => exact ⟨0, rfl, rfl, Nat.zero_le _, UpTo.zero _ _, st⟩
          case round =>
            obtain ⟨k', rfl, rfl, hk', hall', st'⟩ := hrel
            have hcx := HCU2.out wr st'.out.bel
            by_cases hlt' : k' < l'.length
            · obtain ⟨b, off, hA, hb, hcell⟩ := HSR.out.2.2 (show 0 < l'.length by omega)
              simp only at hA
              subst hA
              have hx : l'[k']? = some l'[k'] := List.getElem?_eq_getElem hlt'
              have hmem := List.getElem_mem hlt'
              have hrok := HOR.out l'[k'] hmem
              have hnm := hrok.name
              have he := RopeD.elem hx hb hcell ⟨wr, HBU2.out wr st'.out.bel⟩
              simp only at he
              have HX := hide hx
              have HM := hide hmem
              clear hcell hx hmem
              obtain ⟨V, hV, hVs, hVb, hVh⟩ := boxed wr (.cells #[.string l'[k'].name, .slice l'[k'].holds.A l'[k'].holds.l.length l'[k'].holds.cap, .bool l'[k'].hauled] 53)
              have stV := st'.out.more hVb
              have HSTV := hide stV
              have HV := hide hV
              have HVh := hide hVh
              have hwrU := st'.out.size
              have hkk : (namesR l' k' ++ namesB l l.length).length < maxLen := by rw [namesR, namesB]; simp [maxLen]; omega
              have hadd := add_any l'[k'].name hnm (U.heap.size + 1) U.heap.size (namesR l' k' ++ namesB l l.length) hkk V stV.cell (by have := stV.size; omega) stV.seen
              rw [← List.cons_append, ← namesR_next HX.out] at hadd
              have HADD := hide hadd
              clear hV hVb hVh stV hadd hkk
              have HRA := hide (ropeAt_eq (bl := l) HX.out)
              have hhn := hauls_next HX.out
              have hhl := hauls_le l' k'
              have HHN := hide hhn
              clear hhn
              rcases Bool.eq_false_or_eq_true (isName l'[k'].name && !inNames l'[k'].name (namesR l' k' ++ namesB l l.length)) with hi | hi
              all_goals
                rw [hi] at HADD
                rw [hi] at HRA
              · rcases Bool.eq_false_or_eq_true (ropeOk l l'[k']) with hw | hw
                · rw [hw] at HRA
                  rcases Bool.eq_false_or_eq_true l'[k'].hauled with hu | hu
                  all_goals
                    have hhn := HHN.out
                    rw [hu] at hhn
                    simp only [if_true, Bool.false_eq_true, if_false] at hhn
                    have HHN2 := hide hhn
                    have HU := hide hu
                    clear hhn hu
                    go_wp2_with (first
                      | (go_at_call 34
                         rw [← HV.out]
                         refine HADD.out.mono ?_
                         rintro e w2 ⟨rfl, hsn, hg⟩
                         have st2 := HSTV.out.add hg hsn
                         have hcx2 := HCU2.out w2 st2.bel
                         have hV2 : w2.heap[wr.heap.size]? = some (.cells #[.string l'[k'].name, .slice l'[k'].holds.A l'[k'].holds.l.length l'[k'].holds.cap, .bool l'[k'].hauled] 53 (0, 0)) := (hg.block _ (by omega) (by simp; omega)).trans HVh.out
                         have hlt2 : wr.heap.size < w2.heap.size := Nat.lt_of_lt_of_le (show wr.heap.size < V.heap.size by omega) hg.size
                         have he3 := fun y : After w2.heap.size w2 => RopeD.boxed hV2 hlt2 y
                         have he2 := RopeD.boxed hV2 hlt2 (After.refl w2.heap.size w2)
                         simp only [After.refl] at he2
                         have hsz2 := st2.size
                         have ST2 := hide st2
                         clear hsn hg st2 hV2)
                      | (go_at_call 36; refine (Gives.first (HRO.out _ (HBU2.out _ ST2.out.bel) l'[k'] hrok HM.out)).mono ?_; rintro e w' ⟨rfl, y3, rfl⟩; have he4 := he3 y3; have hu2 := HU.out))
                  · exact ⟨⟨k' + 1, by go_num, by rw [HHN2.out]; go_num, by omega, hall'.out.next HX.out HRA.out, ST2.out.more y3.below⟩, by simp [intOf]; omega⟩
                  · exact ⟨⟨k' + 1, by go_num, by rw [HHN2.out]; rfl, by omega, hall'.out.next HX.out HRA.out, ST2.out.more y3.below⟩, by simp [intOf]; omega⟩
                · rw [hw] at HRA
                  go_wp2_with (first
                    | (go_at_call 34
                       rw [← HV.out]
                       refine HADD.out.mono ?_
                       rintro e w2 ⟨rfl, hsn, hg⟩
                       have st2 := HSTV.out.add hg hsn
                       have hcx2 := HCU2.out w2 st2.bel
                       have hV2 : w2.heap[wr.heap.size]? = some (.cells #[.string l'[k'].name, .slice l'[k'].holds.A l'[k'].holds.l.length l'[k'].holds.cap, .bool l'[k'].hauled] 53 (0, 0)) := (hg.block _ (by omega) (by simp; omega)).trans HVh.out
                       have hlt2 : wr.heap.size < w2.heap.size := Nat.lt_of_lt_of_le (show wr.heap.size < V.heap.size by omega) hg.size
                       have he2 := RopeD.boxed hV2 hlt2 (After.refl w2.heap.size w2)
                       simp only [After.refl] at he2
                       have hsz2 := st2.size
                       have ST2 := hide st2
                       clear hsn hg st2 hV2)
                    | (go_at_call 36; refine (Gives.first (HRO.out _ (HBU2.out _ ST2.out.bel) l'[k'] hrok HM.out)).mono ?_; rintro e w' ⟨rfl, y3, rfl⟩))
                  go_ret
                  exact Gives.mk (congrArg Value.bool (HNR.out k' l'[k'] HX.out HRA.out).symm) (HBD.out ⟨_, HBU2.out _ (ST2.out.more y3.below).bel⟩)
              · go_wp2_with (first
                    | (go_at_call 34
                       rw [← HV.out]
                       refine HADD.out.mono ?_
                       rintro e w2 ⟨rfl, hsn, hg⟩
                       have ST2 := hide (HSTV.out.add hg hsn)
                       clear hsn hg))
                go_ret
                exact Gives.mk (congrArg Value.bool (HNR.out k' l'[k'] HX.out HRA.out).symm) (HBD.out ⟨_, HBU2.out _ ST2.out.bel⟩)
            · have hkl' : k' = l'.length := by omega
              subst hkl'
              rw [List.take_length]
              have HRES := hide (HY.out l.length l'.length HDT.out (Nat.le_refl _) hall.out (Nat.le_refl _) hall'.out)
              go_wp2
              go_ret
              exact Gives.mk (congrArg Value.bool (by rw [HRES.out, Bool.eq_iff_iff]; simp; omega)) (HBD.out ⟨_, HBU2.out _ st'.out.bel⟩)
    · have HDF := hide (HNH.out (by rw [Bool.eq_false_iff]; intro h; have := (HHD.out.1 h).2; rw [hb2] at this; cases this))
      go_enter Tryz.func15, Tryz.ntmps15
      go_wp2_with (first
        | (go_at_call 33; rw [← HW.out]; refine (Gives.first (within_any _ _ _ W)).mono ?_; rintro e w' ⟨rfl, y, rfl⟩)
        | (go_at_call 33; refine (Gives.after (Nat.le_refl _) (within_any _ _ _ _)).mono ?_; rintro e w' ⟨rfl, y2, rfl⟩))
      go_ret
      exact Gives.mk (congrArg Value.bool HDF.out.symm) (HBD.out _)
  · have HDF := hide (HNH.out (by rw [Bool.eq_false_iff]; intro h; have := (HHD.out.1 h).1; rw [hb1] at this; cases this))
    go_enter Tryz.func15, Tryz.ntmps15
    go_wp2_with (go_at_call 33; rw [← HW.out]; refine (Gives.first (within_any _ _ _ W)).mono ?_; rintro e w' ⟨rfl, y, rfl⟩)
    go_ret
    exact Gives.mk (congrArg Value.bool HDF.out.symm) (HBD.out _)
end Go.Proofs.YtgamhdbcejkllaaGreatDoor
