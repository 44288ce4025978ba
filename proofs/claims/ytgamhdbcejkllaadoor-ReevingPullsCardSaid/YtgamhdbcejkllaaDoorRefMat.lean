/- loftblockref10.Matrix. -/
import Derived.Test.YtgamhdbcejkllaaDoorReeveMats
import Derived.Deep.RegionLaw
import Derived.Deep.AppendLies
namespace Go.Proofs.YtgamhdbcejkllaaDoor
open Go.RowKit

/-- the outer row of a matrix that is being made -/
structure MSt (W : World) (u : Value) (vs : List Value) (f : Nat → Nat → Int) (C : Nat) (x : World) : Prop where
  own : x.ownsRow W.heap.size 33 1 u vs.length vs
  rows : ∀ j v, vs[j]? = some v → IntRow x v (rowL f j C) ∧ ∃ (g : Nat) (a : Option Addr) (n m : Nat) (c : Array Value) (fr : Nat × Nat), v = .slice a n m ∧ a = some ⟨g, 0, none⟩ ∧ x.heap[g]? = some (.cells c 3 fr)
  bel : Below W.heap.size W x
theorem MSt.more {W x y : World} {u : Value} {vs : List Value} {f : Nat → Nat → Int} {C : Nat} (h : MSt W u vs f C x) (hb : Below x.heap.size x y) : MSt W u vs f C y := by
  refine ⟨own_below h.own hb, fun j v hv => ?_, h.bel.trans (hb.mono h.bel.size)⟩
  obtain ⟨h1, g, a, n, m, c, fr, e1, e2, e3⟩ := h.rows j v hv
  exact ⟨h1.below hb, g, a, n, m, c, fr, e1, e2, (hb.block g (Array.getElem?_eq_some_iff.1 e3).1).trans e3⟩
theorem MSt.append {W z u w' : World} {v v' : Value} {vs : List Value} {f : Nat → Nat → Int} {C : Nat} {x : Value} (h : MSt W v vs f C z) (hx : IntRow z x (rowL f vs.length C) ∧ ∃ (g : Nat) (a : Option Addr) (n m : Nat) (c : Array Value) (fr : Nat × Nat), x = .slice a n m ∧ a = some ⟨g, 0, none⟩ ∧ z.heap[g]? = some (.cells c 3 fr))
    (hu : Below z.heap.size z u) (hown : w'.ownsRow W.heap.size 33 1 v' (vs.length + 1) (vs ++ [x])) (hgr : u.grownBy w' v.ownBlock) : MSt W v' (vs ++ [x]) f C w' := by
  have hb : Below W.heap.size z w' := Below.grown (hu.mono h.bel.size) hgr (Nat.le_trans h.bel.size hu.size) (own_owner h.own)
  have hkeep : ∀ (y : Value) (xs : List Int), (IntRow z y xs ∧ ∃ (g : Nat) (a : Option Addr) (n m : Nat) (c : Array Value) (fr : Nat × Nat), y = .slice a n m ∧ a = some ⟨g, 0, none⟩ ∧ z.heap[g]? = some (.cells c 3 fr)) → (IntRow w' y xs ∧ ∃ (g : Nat) (a : Option Addr) (n m : Nat) (c : Array Value) (fr : Nat × Nat), y = .slice a n m ∧ a = some ⟨g, 0, none⟩ ∧ w'.heap[g]? = some (.cells c 3 fr)) := fun y xs hy => by
    obtain ⟨⟨g1, cap1, e0, hg1, hc1⟩, g, a, n, m, c, fr, e1, e2, e3⟩ := hy
    subst e2
    rw [e0] at e1
    injection e1 with e1 _ _
    injection e1 with e1
    injection e1 with e1
    subst e1
    have hgu : u.heap[g1]? = some (.cells c 3 fr) := (hu.block g1 hg1).trans e3
    have hgw : w'.heap[g1]? = some (.cells c 3 fr) := by
      refine (hgr.block g1 (Array.getElem?_eq_some_iff.1 hgu).1 fun e => ?_).trans hgu
      rcases h.own.2 with ⟨hv, _⟩ | ⟨g2, cap2, cur, hv, _, hh, _⟩
      · rw [hv] at e; simp [Value.ownBlock] at e
      · rw [hv] at e; simp [Value.ownBlock] at e
        subst e
        rw [hh] at e3; injection e3 with e3; injection e3 with _ e4
        exact absurd e4 (by decide)
    refine ⟨⟨g1, cap1, e0, (Array.getElem?_eq_some_iff.1 hgw).1, fun j z' hz' => ?_⟩, g1, _, _, _, c, fr, e0, rfl, hgw⟩
    have := hc1 j z' hz'
    rw [Lib.cell_of_heap e3] at this
    rw [Lib.cell_of_heap hgw]; exact this
  refine ⟨by rw [List.length_append]; exact hown, fun j y hy => ?_, h.bel.trans hb⟩
  by_cases hj : j < vs.length
  · rw [List.getElem?_append_left hj] at hy
    exact hkeep y _ (h.rows j y hy)
  · rw [List.getElem?_append_right (by omega)] at hy
    have hj0 : j - vs.length = 0 := by
      rcases Nat.eq_zero_or_pos (j - vs.length) with e | e
      · exact e
      · rw [List.getElem?_eq_none (by simp; omega)] at hy; cases hy
    have hjl : j = vs.length := by omega
    rw [hj0] at hy
    simp at hy
    subst hy
    rw [hjl]
    exact hkeep _ _ hx
theorem IntSt.full {W x : World} {v : Value} {xs : List Int} (h : IntSt W v xs x) (hn : xs ≠ []) : IntRow x v xs ∧ ∃ (g : Nat) (a : Option Addr) (n m : Nat) (c : Array Value) (fr : Nat × Nat), v = .slice a n m ∧ a = some ⟨g, 0, none⟩ ∧ x.heap[g]? = some (.cells c 3 fr) := by
  refine ⟨h.row hn, ?_⟩
  rcases h.own.2 with ⟨_, h0⟩ | ⟨g, cap, cur, hv, _, hh, _⟩
  · exact absurd (List.eq_nil_of_length_eq_zero h0) hn
  · exact ⟨g, _, _, _, cur, (0, 0), hv, rfl, hh⟩
theorem MSt.done {W x : World} {u : Value} {vs : List Value} {f : Nat → Nat → Int} {C : Nat} (h : MSt W u vs f C x) (hn : vs ≠ []) : MatRows x u f vs.length C := by
  rcases h.own.2 with ⟨_, h0⟩ | ⟨g, cap, cur, hv, _, hh, _, _, _, htake⟩
  · exact absurd (List.eq_nil_of_length_eq_zero h0) hn
  · refine ⟨g, cap, hv, (Array.getElem?_eq_some_iff.1 hh).1, fun i hi => ⟨vs[i], ?_, (h.rows i _ (List.getElem?_eq_getElem hi)).1⟩⟩
    rw [Lib.cell_of_heap hh, ← Array.getElem?_toList]
    have : (cur.toList.take (vs.length * 1))[i]? = some vs[i] := by rw [htake, List.getElem?_eq_getElem hi]
    rwa [List.getElem?_take_of_lt (by omega)] at this
set_option maxRecDepth 100000 in
set_option maxHeartbeats 8000000 in
theorem refMatrix_any (s : SysD) (hv : sysOk s = true) (w : World) (B : Nat) (hB : B ≤ w.heap.size) (hat : SysD.at_ w B s) :
    Calls Tryd.prog 24 #[.agg #[.slice s.blocks.A s.blocks.l.length s.blocks.cap, .slice s.ropes.A s.ropes.l.length s.ropes.cap]] w fun e w' => ∃ v, e = .returned v ∧ MatRows w' v (matF s.blocks.l s.ropes.l) s.blocks.l.length s.ropes.l.length ∧ Below w.heap.size w w' := by
  obtain ⟨⟨hR1, hR6, hC1, hC6⟩, _, _⟩ := sysOk_parts hv
  obtain ⟨W, hW, hWs, hWb, hWh⟩ := boxed w (.cells #[.slice s.blocks.A s.blocks.l.length s.blocks.cap, .slice s.ropes.A s.ropes.l.length s.ropes.cap] 25)
  have hc := fun y : After W.heap.size W => SysD.boxed hWh (by omega) y
  have HBD := hide fun y : After W.heap.size W => hWb.trans (y.below.mono (by omega))
  have hatW : SysD.at_ W W.heap.size s := hat.to (hWb.mono hB) (by omega)
  have KP := hide fun (v : World) (hv' : Below W.heap.size W v) (i k : Nat) (b : BlockD) (r : RopeD) (hb : s.blocks.l[i]? = some b) (hr : s.ropes.l[k]? = some r) => (by
    have h1 := ropeOk_of hv (List.mem_of_getElem? hr)
    have := pull_any r b.name (small_of_rope h1) (ropeOk_parts h1).2.1 v W.heap.size hv'.size (RopeD.at_.to (hatW.each r (List.mem_of_getElem? hr)) hv' (Nat.le_refl _))
    rw [← matF_pull hv hb hr] at this
    exact this : Calls Tryd.prog 48 #[.agg #[.string r.name, .slice r.holds.A r.holds.l.length r.holds.cap, .bool r.hauled], .string b.name] v (Gives v (.int .i64 (matF s.blocks.l s.ropes.l i k))))
  have HSB := hide hatW.blocks
  have HSR := hide hatW.ropes
  have hmb : s.blocks.cap ≤ 9223372036854775807 := hat.blocks.2.1
  have hlb : s.blocks.l.length ≤ s.blocks.cap := hat.blocks.1
  have hmr : s.ropes.cap ≤ 9223372036854775807 := hat.ropes.2.1
  have hlr : s.ropes.l.length ≤ s.ropes.cap := hat.ropes.1
  have HW := hide hW
  obtain ⟨f, hf⟩ : ∃ f, f = matF s.blocks.l s.ropes.l := ⟨_, rfl⟩
  rw [← hf] at KP ⊢
  clear hW hWs hWh hWb hat hatW hv hf
  obtain ⟨⟨A, cap, l⟩, ⟨A', cap', l'⟩⟩ := s
  simp only at *
  obtain ⟨bb, bo, hbA, hbb, hbc⟩ := HSB.out.2.2 (show 0 < l.length by omega)
  simp only at hbA
  subst hbA
  obtain ⟨rb, ro, hrA, hrb, hrc⟩ := HSR.out.2.2 (show 0 < l'.length by omega)
  simp only at hrA
  subst hrA
  have HBC := hide hbc
  have HRC := hide hrc
  obtain ⟨i0, hi, hz0, hz1, hz2⟩ := info_parts infoInts
  obtain ⟨i1, hj, hy0, hy1, hy2⟩ := info_parts infoRowsI
  have HI := hide (And.intro hi (And.intro hz0 (And.intro hz1 hz2)))
  have HJ := hide (And.intro hj (And.intro hy0 (And.intro hy1 hy2)))
  clear hbc hrc hi hz0 hz1 hz2 hj hy0 hy1 hy2
  go_enter Tryd.func24, Tryd.ntmps24
  go_wp2
  rw [← HW.out]
  go_loopw [3, 4] (fun u v wr => ∃ (i : Nat) (vs : List Value), v = .int .i64 i ∧ i ≤ l.length ∧ Hid (vs.length = i) ∧ Hid (MSt W u vs f l'.length wr)) (fun _ v _ => l.length - (intOf v).toNat)
  case atStart => exact ⟨0, [], rfl, Nat.zero_le _, hide rfl, hide ⟨own_nil _ _ _ _, fun j v hv => by simp at hv, Below.refl _ _⟩⟩
  case round =>
    obtain ⟨i, vs, rfl, hi, hvs, st⟩ := hrel
    obtain ⟨X, hXe⟩ : ∃ X, X = wr := ⟨_, rfl⟩
    subst hXe
    have hcw := hc ⟨_, st.out.bel⟩
    simp only at hcw
    by_cases hit : i < l.length
    · have hbx : l[i]? = some l[i] := List.getElem?_eq_getElem hit
      have HBX := hide hbx
      clear hbx
      go_wp2
      go_loopw [5, 6] (fun t v wr2 => ∃ (k : Nat) (rowv : Value), rowv = t ∧ v = .int .i64 k ∧ k ≤ l'.length ∧ Hid (IntSt X rowv (rowL f i k) wr2)) (fun _ v _ => l'.length - (intOf v).toNat)
      case atStart => exact ⟨0, _, rfl, rfl, Nat.zero_le _, hide (by simpa [rowL] using IntSt.start X X (Below.refl _ _))⟩
      case round =>
        obtain ⟨k, rowv, rfl, rfl, hk, ist⟩ := hrel
        obtain ⟨Z, hZe⟩ : ∃ Z, Z = wr := ⟨_, rfl⟩
        subst hZe
        have HBW := hide (st.out.bel.trans (ist.out.bel.mono st.out.bel.size))
        have hcz := hc ⟨_, HBW.out⟩
        simp only at hcz
        by_cases hkt : k < l'.length
        · have hkx : l'[k]? = some l'[k] := List.getElem?_eq_getElem hkt
          have her := RopeD.elem hkx hrb HRC.out ⟨_, HBW.out⟩
          have heb := BlockD.elem HBX.out hbb HBC.out ⟨_, HBW.out⟩
          simp only at her heb
          have KC := hide (fun (u : World) (hu : Below Z.heap.size Z u) => (KP.out u (HBW.out.trans (hu.mono HBW.out.size)) i k _ _ HBX.out hkx).mono (R' := fun e w2 => e = .returned (.int .i64 (f i k)) ∧ Hid (IntSt X rowv (rowL f i k) w2) ∧ X.heap.size ≤ w2.heap.size) fun e w2 ⟨he, hb⟩ => ⟨he, hide (ist.out.more (hu.trans (hb.mono hu.size))), (ist.out.more (hu.trans (hb.mono hu.size))).bel.size⟩)
          have HNX := hide (rowL_next f i k)
          have HLEN := hide (rowL_length f i k)
          obtain ⟨r, hr⟩ : ∃ r, r = l'[k] := ⟨_, rfl⟩
          obtain ⟨b, hb⟩ : ∃ b, b = l[i] := ⟨_, rfl⟩
          rw [← hr] at her KC
          rw [← hb] at heb KC
          obtain ⟨p, hp⟩ : ∃ p, p = f i k := ⟨_, rfl⟩
          rw [← hp] at KC HNX
          have hii : (0 : Int) ≤ (i : Int) := by omega
          have hij : (i : Int) < (l.length : Int) := by omega
          have hki : (0 : Int) ≤ (k : Int) := by omega
          have hkj : (k : Int) < (l'.length : Int) := by omega
          clear hr hb hp hkx
          go_wp2_with fail
          go_region_law (first
            | (refine step_append_lies _ (by rfl) (.tmp 21) (.tmp 34) 33 (by rfl) X.heap.size 3 i0 (.int .i64 0) 1 8 Tryd.underlying33 HI.out.1 HI.out.2.1 HI.out.2.2.1 HI.out.2.2.2 rfl (by omega) rowv _ _ (by go_simp) (hst2.out.own.alloc _) ⟨w2.heap.size, 0, none⟩ 1 1 [.int .i64 p] (by go_simp) rfl (World.news_of_block (heap_alloc_new w2 _)) (fun u hu => by simp at hu; subst hu; rfl) (by omega) (by rw [HLEN.out]; unfold maxLen; omega) (by rw [HLEN.out]; omega) (by have := hsz2; simp; omega) (w2.heap.size + 1) (by simp) ?_; intro g cap4 w4 hown4 hgr hg hlt4)
            | (go_simp; go_at_call 48; refine (KC.out _ (by first | exact (Below.refl _ _).drew | exact Below.refl _ _)).mono ?_; rintro e w2 ⟨rfl, hst2, hsz2⟩))
          all_goals
            have HN := hide (IntSt.append hst2.out ((Below.refl _ _).alloc (Nat.le_refl _) _) hown4 hgr)
            rw [← HNX.out] at HN
            clear hgr hg hown4 hlt4 hst2 hsz2
            go_simp
            go_wp2
            exact ⟨⟨k + 1, _, rfl, by go_num, by omega, HN⟩, by simp [intOf]; omega⟩
        · have hkl : k = l'.length := by omega
          subst hkl
          have hrow := ist.out.full (fun h => by have := congrArg List.length h; rw [rowL_length, List.length_nil] at this; omega)
          rw [← hvs.out] at hrow
          obtain ⟨hrow1, g, ao, n, m, c, fr, hre, ha, hh⟩ := hrow
          subst hre
          have HROW := hide (And.intro hrow1 (show ∃ (g' : Nat) (a : Option Addr) (n' m' : Nat) (c' : Array Value) (fr' : Nat × Nat), Value.slice ao n m = .slice a n' m' ∧ a = some ⟨g', 0, none⟩ ∧ Z.heap[g']? = some (.cells c' 3 fr') from ⟨g, ao, n, m, c, fr, rfl, ha, hh⟩))
          clear hrow1 ha hh
          have HST := hide (st.out.more ist.out.bel)
          have HNV := hide (show (vs ++ [Value.slice ao n m]).length = i + 1 by rw [List.length_append, hvs.out]; rfl)
          have HVS := hide hvs.out
          have hZs := HBW.out.size
          clear hcw hvs
          go_wp2_with (at_builtin; refine Hid.out ?_)
          refine Lib.hid ?_
          refine wpList_append_own _ rfl _ _ 29 rfl W.heap.size 33 i1 (.slice none 0 0) 1 24 Tryd.underlying29 HJ.out.1 HJ.out.2.1 HJ.out.2.2.1 HJ.out.2.2.2 rfl (by decide) _ _ _ rfl (HST.out.own.alloc _) ⟨Z.heap.size, 0, none⟩ 1 1 [.slice ao n m] rfl rfl (cell_one_new _ _ _) (fun u hu => by simp at hu; subst hu; rfl) (by rw [HVS.out]; unfold maxLen; omega) (by rw [HVS.out]; omega) (by simp; omega) ?_
          intro v4 w4 hown hgr _
          have HN := hide (MSt.append HST.out HROW.out ((Below.refl _ _).alloc (Nat.le_refl _) _) hown hgr)
          clear hgr hown
          go_wp2
          exact ⟨⟨i + 1, vs ++ [.slice ao n m], by go_num, by omega, HNV, HN⟩, by simp [intOf]; omega⟩
    · have hil : i = l.length := by omega
      subst hil
      go_wp2
      go_ret
      exact ⟨_, rfl, hvs.out ▸ st.out.done (fun h => by rw [h] at hvs; have := hvs.out; simp at this; omega), HBD.out ⟨_, st.out.bel⟩⟩
end Go.Proofs.YtgamhdbcejkllaaDoor
