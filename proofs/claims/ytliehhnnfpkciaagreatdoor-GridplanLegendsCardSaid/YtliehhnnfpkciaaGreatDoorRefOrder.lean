/- loftblockref30.Order: the numbers of the sets of a right house, by depth. -/
import Derived.Test.YtliehhnnfpkciaaGreatDoorOrder
import Derived.Laws.AppendOwnNone
namespace Go.Proofs.YtliehhnnfpkciaaGreatDoor
open Go.RowKit

theorem own_weaken {w : World} {b b' : Nat} {e : TypeId} {size : Nat} {v : Value} {n : Nat} {xs : List Value} (h : w.ownsRow b e size v n xs) (hb : b' ≤ b) : w.ownsRow b' e size v n xs := by
  refine ⟨h.1, ?_⟩
  rcases h.2 with h2 | ⟨g, cap, cur, hv, hg, r⟩
  · exact Or.inl h2
  · exact Or.inr ⟨g, cap, cur, hv, by omega, r⟩
theorem NumSt.appendL {W z u w' : World} {v v' : Value} {xs ys : List Nat} (h : NumSt W v xs z) (hu : Below z.heap.size z u) (hown : w'.ownsRow W.heap.size 3 1 v' (xs.length + ys.length) (xs.map (fun n : Nat => Value.int .i64 (n : Int)) ++ ys.map (fun n : Nat => Value.int .i64 (n : Int)))) (hgr : u.grownBy w' v.ownBlock) : NumSt W v' (xs ++ ys) w' := by
  have hb : Below W.heap.size z w' := Below.grown (hu.mono h.bel.size) hgr (Nat.le_trans h.bel.size hu.size) (own_owner h.own)
  refine ⟨?_, h.bel.trans hb⟩
  rw [List.length_append, List.map_append]
  exact hown
theorem NumSt.empty (w : World) : NumSt w (.slice (some ⟨w.heap.size, 0, none⟩) 0 0) [] (w.alloc (.cells #[] 3)) :=
  ⟨⟨by simp, Or.inr ⟨w.heap.size, 0, #[], rfl, Nat.le_refl _, heap_alloc_new w _, Nat.le_refl _, by simp [maxLen], by simp, by simp⟩⟩, (Below.refl _ _).alloc (Nat.le_refl _) _⟩
theorem NumSt.onto {W x y : World} {v v' : Value} {xs ys : List Nat} (h : NumSt W v xs x) (h' : NumSt x v' ys y) : NumSt W v' ys y := ⟨own_weaken h'.own h.bel.size, h.bel.trans (h'.bel.mono h.bel.size)⟩
theorem NumSt.nums {W x : World} {v : Value} {xs : List Nat} (h : NumSt W v xs x) (hn : 0 < xs.length) : ∃ g cap, v = .slice (some ⟨g, 0, none⟩) xs.length cap ∧ xs.length ≤ cap ∧ cap ≤ maxLen ∧ NumsIn x g xs := by
  rcases h.own.2 with ⟨_, h0⟩ | ⟨g, cap, cur, hv, _, hh, hc1, hc2, hc3, htake⟩
  · omega
  · refine ⟨g, cap, hv, hc1, hc2, cur, (0, 0), hh, fun j y hy => ?_⟩
    have hj := (List.getElem?_eq_some_iff.1 hy).1
    have : (cur.toList.take (xs.length * 1))[j]? = some (.int .i64 (y : Int)) := by rw [htake, List.getElem?_map, hy]; rfl
    rw [List.getElem?_take_of_lt (by omega)] at this
    simpa using this
theorem nums_news {w : World} {g k m : Nat} {l : List Nat} (h : NumsIn w g l) : ∀ j u, (((l.drop k).take m).map fun n : Nat => Value.int .i64 (n : Int))[j]? = some u → w.cell? ((⟨g, k, none⟩ : Addr).add j) = some u := fun j u hj => by
  rw [List.getElem?_map] at hj
  obtain ⟨y, hy, rfl⟩ := Option.map_eq_some_iff.1 hj
  have hjm : j < m := by
    rcases Nat.lt_or_ge j m with h1 | h1
    · exact h1
    · rw [List.getElem?_take, if_neg (by omega)] at hy; cases hy
  rw [List.getElem?_take_of_lt hjm, List.getElem?_drop] at hy
  have := h.cell hy
  unfold Addr.add
  by_cases hz : j = 0
  · subst hz; simpa using this
  · rw [if_neg hz]; exact this
theorem NumSt.more {W x y : World} {v : Value} {xs : List Nat} (h : NumSt W v xs x) (hb : Below x.heap.size x y) : NumSt W v xs y := ⟨own_below h.own hb, h.bel.trans (hb.mono h.bel.size)⟩
/-- what the reference's Order gives -/
def RefOrdered (l : List SetD) (w : World) (e : Ending) (w' : World) : Prop := ∃ A cap, e = .returned (.slice A l.length cap) ∧ l.length ≤ cap ∧ cap ≤ maxLen ∧ Below w.heap.size w w' ∧ (0 < l.length → ∃ g, A = some ⟨g, 0, none⟩ ∧ NumsIn w' g (orderE (dep l) l.length))
set_option maxHeartbeats 8000000 in
set_option maxRecDepth 100000 in
theorem refOrder_good (h : HouseD) (hz : Sized h.sets.l) (h20 : h.sets.l.length < 20) (w : World) (B : Nat) (hB : B ≤ w.heap.size) (hat : HouseD.at_ w B h) :
    Calls Tryz.prog 47 #[.agg #[.string h.name, .int .i64 h.height, .slice h.sets.A h.sets.l.length h.sets.cap, .slice h.roofs.A h.roofs.l.length h.roofs.cap]] w (RefOrdered h.sets.l w) := by
  obtain ⟨W, hW, hWs, hWb, hWh⟩ := boxed w (.cells #[.string h.name, .int .i64 h.height, .slice h.sets.A h.sets.l.length h.sets.cap, .slice h.roofs.A h.roofs.l.length h.roofs.cap] 25)
  have hc := fun y : After W.heap.size W => HouseD.boxed hWh (by omega) y
  have HBD := hide fun y : After W.heap.size W => hWb.trans (y.below.mono (by omega))
  have hatW : HouseD.at_ W W.heap.size h := hat.to (hWb.mono hB) (by omega)
  obtain ⟨i0, hi, hz0, hz1, hz2⟩ := info_parts infoInts'
  have HZ := hide hz
  have HSB := hide hatW.sets
  have hm : h.sets.cap ≤ 9223372036854775807 := hat.sets.2.1
  have hlc : h.sets.l.length ≤ h.sets.cap := hat.sets.1
  have HW := hide hW
  have HHC := hide hc
  clear hW hWs hWh hWb hat hatW hz
  obtain ⟨name, height, ⟨A, cap, l⟩, roofs⟩ := h
  simp only at *
  have hc0 := hc (After.refl _ W)
  simp only [After.refl] at hc0
  clear hc
  go_enter Tryz.func47, Tryz.ntmps47
  go_wp2
  rw [← HW.out]
  go_loopw [3, 4, 5, 6] (fun u v _ _ wr => ∃ i : Nat, v = .int .i64 i ∧ i ≤ l.length ∧ Hid (NumSt W u (orderE (dep l) i) wr) ∧ Hid (i = 0 → u = .slice none 0 0)) (fun _ v _ _ _ => l.length - (intOf v).toNat)
  case atStart => exact ⟨0, rfl, Nat.zero_le _, hide (NumSt.start W _ (Below.refl _ _)), hide fun _ => rfl⟩
  case round =>
    clear hc0
    obtain ⟨i, rfl, hil, st, hnil⟩ := hrel
    have hcw := HHC.out ⟨_, st.out.bel⟩
    simp only at hcw
    by_cases hlt : i < l.length
    · rcases Nat.eq_zero_or_pos i with h0 | hp
      · -- the first set
        have hu := hnil.out h0
        subst hu
        subst h0
        have HE1 : Hid (orderE (dep l) 1 = [0]) := hide rfl
        have hwr : Below W.heap.size W wr := st.out.bel
        have HWR := hide st.out
        clear st hnil
        go_wp2
        go_loopw [5] (fun k wz => k = .int .i64 0 ∧ ∃ z : After wr.heap.size wr, wz = z.val) (fun _ _ => 0)
        case atStart => exact ⟨rfl, After.refl _ _, rfl⟩
        case round =>
          obtain ⟨rfl, z, rfl⟩ := hrel
          have hcz := HHC.out ⟨z.val, hwr.trans (z.below.mono hwr.size)⟩
          simp only at hcz
          go_wp2_with fail
          refine wp_region_after z (by kernel_rfl) (by kernel_rfl) ?_
          repeat (go_big_quiet_step (fail))
          refine wpQuiet_nil ?_
          intro y
          have HE := hide (NumSt.empty y.val)
          go_wp2_with (at_builtin; refine Hid.out ?_)
          refine Lib.hid ?_
          refine wpList_append_own_none rfl _ _ 45 rfl y.val.heap.size 3 i0 1 Tryz.underlying45 hi _ _ _ rfl HE.out.own rfl ?_
          go_wp2_with (at_builtin; refine Hid.out ?_)
          refine Lib.hid ?_
          refine wpList_append_own _ rfl _ _ 45 rfl y.val.heap.size 3 i0 (.int .i64 0) 1 8 Tryz.underlying45 hi hz0 hz1 hz2 rfl (by decide) _ _ _ rfl (HE.out.own.alloc _) ⟨y.val.heap.size + 1, 0, none⟩ 1 1 [.int .i64 ((0 : Nat) : Int)] rfl rfl (by simpa using cell_one_new (y.val.alloc _) _ _) (fun u hu => by simp at hu; subst hu; rfl) (by unfold maxLen; simp) (by simp) (by simp; omega) ?_
          intro v4 w4 hown hgr _
          have HN := hide (NumSt.append HE.out ((Below.refl _ _).alloc (Nat.le_refl _) _) hown hgr)
          clear hgr hown
          go_wp2_with (at_builtin; refine Hid.out ?_)
          refine Lib.hid ?_
          refine wpList_append_own_none rfl _ _ 45 rfl y.val.heap.size 3 i0 1 Tryz.underlying45 hi _ _ _ rfl HN.out.own rfl ?_
          have HF := hide (show NumSt W v4 (orderE (dep l) (0 + 1)) w4 from by
            rw [show orderE (dep l) (0 + 1) = [] ++ [0] from HE1.out]
            exact (HWR.out.more y.below).onto HN.out)
          go_wp2
          exact ⟨⟨0 + 1, by go_num, by omega, HF, hide fun h => absurd h (by omega)⟩, by simp [intOf]; omega⟩
      · obtain ⟨g, ucap, rfl, hu1, hu2, hnum⟩ := st.out.nums (by rw [orderE_length]; exact hp)
        rw [orderE_length] at hu1 ⊢
        have hol := orderE_length (dep l) i
        have hlt2 := fun y (hy : y ∈ orderE (dep l) i) => orderE_lt _ hy
        have hwr : Below W.heap.size W wr := st.out.bel
        have HWR := hide st.out
        have HNXT := hide (orderE_succ (dep l) i)
        clear st hnil
        generalize orderE (dep l) i = ord at *
        have hu2' : ucap ≤ 9223372036854775807 := hu2
        have HU2 := hide hu2
        obtain ⟨b, off, hA, hb, hcell⟩ := HSB.out.2.2 (show 0 < l.length by omega)
        simp only at hA
        subst hA
        have HDEP := hide (show ∀ (k : Nat), k < l.length → ∀ x : After W.heap.size W, x.val.cell? ⟨b, off + k * 13 + 1, none⟩ = some (.int .i64 (dep l k)) from fun k hk x => by
          have hx : l[k]? = some l[k] := List.getElem?_eq_getElem hk
          rw [dep_of hx]
          exact (SetD.elem hx hb hcell x).2.1)
        have hdi := HDEP.out i hlt
        have hib := dep_bound HZ.out i
        clear hu2 hcell
        go_wp2
        go_loopw [5] (fun v wz => ∃ k : Nat, v = .int .i64 k ∧ k ≤ i ∧ Hid (∀ (j y : Nat), k ≤ j → ord[j]? = some y → dep l i < dep l y) ∧ ∃ z : After wr.heap.size wr, wz = z.val) (fun v _ => (intOf v).toNat)
        case atStart => exact ⟨i, rfl, Nat.le_refl _, hide (fun j y hj hy => absurd (List.getElem?_eq_some_iff.1 hy).1 (by omega)), After.refl _ _, rfl⟩
        case round =>
          obtain ⟨k, rfl, hk, HG, z, rfl⟩ := hrel
          have hwz : Below W.heap.size W z.val := hwr.trans (z.below.mono hwr.size)
          have hcz := fun y : After wr.heap.size wr => HHC.out ⟨y.val, hwr.trans (y.below.mono hwr.size)⟩
          simp only at hcz
          have hdiz := fun y : After wr.heap.size wr => hdi ⟨y.val, hwr.trans (y.below.mono hwr.size)⟩
          simp only at hdiz
          have hi0 : (0 : Int) ≤ (i : Int) := by omega
          have hiL : (i : Int) < (l.length : Int) := by omega
          rcases Nat.eq_zero_or_pos k with hk0 | hkp
          · have hkd : decide (0 < k) = false := by simp; omega
            have hkd2 : decide ((0 : Int) < (k : Int)) = false := by simp; omega
            have HKAT := hide (show insAt (dep l) i ord = k from insAt_step (by omega) HG.out (Or.inl hk0))
            have HK0 := hide hk0
            clear hk0
            go_wp2_with fail
            refine wp_region_after z (by kernel_rfl) (by kernel_rfl) ?_
            repeat (go_big_quiet_step (fail))
            refine wpQuiet_nil ?_
            intro y
            have HE := hide (NumSt.empty y.val)
            have hnumy : NumsIn y.val g ord := hnum.below y.below
            have hnum1 : NumsIn (y.val.alloc (.cells #[] 3)) g ord := hnumy.below ((Below.refl _ _).alloc (Nat.le_refl _) _)
            have hnew1 := nums_news (k := 0) (m := k) hnum1
            have hle1 : (((ord.drop 0).take (k)).map fun n : Nat => Value.int .i64 (n : Int)).length = (k) * 1 := by rw [List.length_map, List.length_take, List.length_drop]; omega
            have HNUMY := hide hnumy
            clear hnumy hnum1
            go_wp2_with (at_builtin; refine Hid.out ?_)
            refine Lib.hid ?_
            refine wpList_append_own _ rfl _ _ 45 rfl y.val.heap.size 3 i0 (.int .i64 0) 1 8 Tryz.underlying45 hi hz0 hz1 hz2 rfl (by decide) _ _ _ rfl HE.out.own ⟨g, 0, none⟩ (k) ucap (((ord.drop 0).take (k)).map fun n : Nat => Value.int .i64 (n : Int)) rfl hle1 hnew1 (fun u hu => by obtain ⟨n, _, rfl⟩ := List.mem_map.1 hu; rfl) (by simp only [List.length_nil]; unfold maxLen; omega) (by simp only [List.length_nil]; omega) (by simp) ?_
            intro v1 w1 hown1 hgr1 _
            have hl1 : ((ord.drop 0).take (k)).length = k := by simpa using hle1
            have H1 := hide (NumSt.appendL (ys := (ord.drop 0).take (k)) HE.out (Below.refl _ _) (by rw [hl1]; simpa using hown1) hgr1)
            have HL1 := hide hl1
            clear hown1 hgr1 hnew1 hle1 hl1
            go_wp2_with (at_builtin; refine Hid.out ?_)
            refine Lib.hid ?_
            refine wpList_append_own _ rfl _ _ 45 rfl y.val.heap.size 3 i0 (.int .i64 0) 1 8 Tryz.underlying45 hi hz0 hz1 hz2 rfl (by decide) _ _ _ rfl (H1.out.own.alloc _) ⟨w1.heap.size, 0, none⟩ 1 1 [.int .i64 (i : Int)] rfl rfl (by simpa using cell_one_new w1 _ _) (fun u hu => by simp at hu; subst hu; rfl) (by have := HL1.out; simp only [List.nil_append]; unfold maxLen; omega) (by have := HL1.out; simp only [List.nil_append]; omega) (by have := H1.out.bel.size; simp; omega) ?_
            intro v2 w2 hown2 hgr2 _
            have H2 := hide (NumSt.append H1.out ((Below.refl _ _).alloc (Nat.le_refl _) _) hown2 hgr2)
            have HL2 := hide (show ([] ++ (ord.drop 0).take (k) ++ [i]).length = (k) + 1 by simp only [List.nil_append, List.length_append, HL1.out, List.length_cons, List.length_nil])
            clear hgr2 hown2
            have hnum2 : NumsIn w2 g ord := HNUMY.out.below H2.out.bel
            have hnew3 := nums_news (k := k) (m := i - (k)) hnum2
            have hle3 : (((ord.drop (k)).take (i - (k))).map fun n : Nat => Value.int .i64 (n : Int)).length = (i - (k)) * 1 := by rw [List.length_map, List.length_take, List.length_drop]; omega
            clear hnum2
            have HFIN := hide (show insO (dep l) i ord = [] ++ (ord.drop 0).take (k) ++ [i] ++ (ord.drop (k)).take (i - (k)) from by
              rw [insO_at, HKAT.out, List.drop_zero, List.nil_append, List.take_of_length_le (l := ord.drop (k)) (by rw [List.length_drop]; omega)]
              simp)
            have HN3 := hide hnew3
            have HLE3 := hide hle3
            have HFW := hide (show ∀ v w', NumSt y.val v ([] ++ (ord.drop 0).take (k) ++ [i] ++ (ord.drop (k)).take (i - (k))) w' → NumSt W v (orderE (dep l) (i + 1)) w' from fun v w' hv => by
              rw [HNXT.out, HFIN.out]
              exact (HWR.out.more y.below).onto hv)
            have hle3' : ((ord.drop (k)).take (i - (k))).length = i - (k) := by simpa using hle3
            have HLY := hide hle3'
            clear hnew3 hle3 hle3'
            by_cases hkc : ucap = k
            · have hik : i - (k) = 0 := by omega
              have HIK := hide hik
              clear hik
              go_wp2_with (at_builtin; refine Hid.out ?_)
              refine Lib.hid ?_
              refine wpList_append_own _ rfl _ _ 45 rfl y.val.heap.size 3 i0 (.int .i64 0) 1 8 Tryz.underlying45 hi hz0 hz1 hz2 rfl (by decide) _ _ _ rfl H2.out.own ⟨g, 0, none⟩ (i - (k)) 0 (((ord.drop (k)).take (i - (k))).map fun n : Nat => Value.int .i64 (n : Int)) rfl HLE3.out (fun j u hj => absurd (List.getElem?_eq_some_iff.1 hj).1 (by rw [HLE3.out, HIK.out]; omega)) (fun u hu => by obtain ⟨n, _, rfl⟩ := List.mem_map.1 hu; rfl) (by have := HL2.out; rw [this]; unfold maxLen; omega) (by have := HL2.out; rw [this]; omega) H2.out.bel.size ?_
              intro v3 w3 hown3 hgr3 _
              have H3 := hide (HFW.out _ _ (NumSt.appendL (ys := (ord.drop (k)).take (i - (k))) H2.out (Below.refl _ _) (by rw [HLY.out]; exact hown3) hgr3))
              clear hown3 hgr3
              go_wp2
              exact ⟨⟨i + 1, by go_num, by omega, H3, hide fun h => absurd h (by omega)⟩, by simp [intOf]; omega⟩
            · go_wp2_with (at_builtin; refine Hid.out ?_)
              refine Lib.hid ?_
              refine wpList_append_own _ rfl _ _ 45 rfl y.val.heap.size 3 i0 (.int .i64 0) 1 8 Tryz.underlying45 hi hz0 hz1 hz2 rfl (by decide) _ _ _ rfl H2.out.own ⟨g, k, none⟩ (i - (k)) (ucap - (k)) (((ord.drop (k)).take (i - (k))).map fun n : Nat => Value.int .i64 (n : Int)) rfl HLE3.out HN3.out (fun u hu => by obtain ⟨n, _, rfl⟩ := List.mem_map.1 hu; rfl) (by have := HL2.out; rw [this]; unfold maxLen; omega) (by have := HL2.out; rw [this]; omega) H2.out.bel.size ?_
              intro v3 w3 hown3 hgr3 _
              have H3 := hide (HFW.out _ _ (NumSt.appendL (ys := (ord.drop (k)).take (i - (k))) H2.out (Below.refl _ _) (by rw [HLY.out]; exact hown3) hgr3))
              clear hown3 hgr3
              go_wp2
              exact ⟨⟨i + 1, by go_num, by omega, H3, hide fun h => absurd h (by omega)⟩, by simp [intOf]; omega⟩
          · obtain ⟨kp, rfl⟩ : ∃ kp, k = kp + 1 := ⟨k - 1, by omega⟩
            obtain ⟨y0, hy0⟩ : ∃ y0, ord[kp]? = some y0 := ⟨_, List.getElem?_eq_getElem (show kp < ord.length by omega)⟩
            have hy0l : y0 < l.length := by have := hlt2 y0 (List.mem_of_getElem? hy0); omega
            have hcy0 := fun x : After wr.heap.size wr => x.cell (hnum.cell hy0) hnum.lt
            have hdy0 := fun x : After wr.heap.size wr => HDEP.out y0 hy0l ⟨x.val, hwr.trans (x.below.mono hwr.size)⟩
            simp only at hdy0
            obtain ⟨yb0, yb1⟩ := dep_bound HZ.out y0
            have hwp : IntKind.i64.wrap (kp : Int) = (kp : Int) := by rw [IntKind.wrap_i64]; omega
            have p0 : (0 : Int) ≤ (kp : Int) + 1 := by omega
            have p1 : (kp : Int) + 1 ≤ (i : Int) := by omega
            have p2 : (0 : Int) ≤ (kp : Int) := by omega
            have p3 : (kp : Int) < (i : Int) := by omega
            have e0 : ((kp : Int) + 1).toNat = kp + 1 := by omega
            have y00 : (0 : Int) ≤ (y0 : Int) := by omega
            have y01 : (y0 : Int) < (l.length : Int) := by omega
            have hkd2 : decide ((0 : Int) < (kp : Int) + 1) = true := decide_eq_true (by omega)
            by_cases hgt : dep l i < dep l y0
            · have hgd : decide (dep l i < dep l y0) = true := by simpa using hgt
              have HG2 := hide (show ∀ (j y : Nat), kp ≤ j → ord[j]? = some y → dep l i < dep l y from fun j y hj hy => by
                by_cases e : j = kp
                · subst e; rw [hy0] at hy; injection hy with hy; rw [← hy]; exact hgt
                · exact HG.out j y (by omega) hy)
              have HY0 := hide hy0
              clear hy0 hgt
              go_wp2_with fail
              refine wp_region_after z (by kernel_rfl) (by kernel_rfl) ?_
              repeat (go_big_quiet_step (fail))
              refine wpQuiet_nil ?_
              intro y
              clear hwp e0
              go_wp2
              exact ⟨⟨kp, by go_num, by omega, HG2, y, rfl⟩, by simp [intOf]⟩
            · have hgd : decide (dep l i < dep l y0) = false := by simpa using hgt
              have HKAT := hide (show insAt (dep l) i ord = kp + 1 from insAt_step (by omega) HG.out (Or.inr ⟨y0, by rw [Nat.add_sub_cancel]; exact hy0, hgt⟩))
              have HY0 := hide hy0
              clear hy0 hgt
              go_wp2_with fail
              refine wp_region_after z (by kernel_rfl) (by kernel_rfl) ?_
              repeat (go_big_quiet_step (fail))
              refine wpQuiet_nil ?_
              intro y
              clear hwp
              have HE := hide (NumSt.empty y.val)
              have hnumy : NumsIn y.val g ord := hnum.below y.below
              have hnum1 : NumsIn (y.val.alloc (.cells #[] 3)) g ord := hnumy.below ((Below.refl _ _).alloc (Nat.le_refl _) _)
              have hnew1 := nums_news (k := 0) (m := kp + 1) hnum1
              have hle1 : (((ord.drop 0).take (kp + 1)).map fun n : Nat => Value.int .i64 (n : Int)).length = (kp + 1) * 1 := by rw [List.length_map, List.length_take, List.length_drop]; omega
              have HNUMY := hide hnumy
              clear hnumy hnum1
              go_wp2_with (at_builtin; refine Hid.out ?_)
              refine Lib.hid ?_
              refine wpList_append_own _ rfl _ _ 45 rfl y.val.heap.size 3 i0 (.int .i64 0) 1 8 Tryz.underlying45 hi hz0 hz1 hz2 rfl (by decide) _ _ _ rfl HE.out.own ⟨g, 0, none⟩ (kp + 1) ucap (((ord.drop 0).take (kp + 1)).map fun n : Nat => Value.int .i64 (n : Int)) rfl hle1 hnew1 (fun u hu => by obtain ⟨n, _, rfl⟩ := List.mem_map.1 hu; rfl) (by simp only [List.length_nil]; unfold maxLen; omega) (by simp only [List.length_nil]; omega) (by simp) ?_
              intro v1 w1 hown1 hgr1 _
              have hl1 : ((ord.drop 0).take (kp + 1)).length = kp + 1 := by simpa using hle1
              have H1 := hide (NumSt.appendL (ys := (ord.drop 0).take (kp + 1)) HE.out (Below.refl _ _) (by rw [hl1]; simpa using hown1) hgr1)
              have HL1 := hide hl1
              clear hown1 hgr1 hnew1 hle1 hl1
              go_wp2_with (at_builtin; refine Hid.out ?_)
              refine Lib.hid ?_
              refine wpList_append_own _ rfl _ _ 45 rfl y.val.heap.size 3 i0 (.int .i64 0) 1 8 Tryz.underlying45 hi hz0 hz1 hz2 rfl (by decide) _ _ _ rfl (H1.out.own.alloc _) ⟨w1.heap.size, 0, none⟩ 1 1 [.int .i64 (i : Int)] rfl rfl (by simpa using cell_one_new w1 _ _) (fun u hu => by simp at hu; subst hu; rfl) (by have := HL1.out; simp only [List.nil_append]; unfold maxLen; omega) (by have := HL1.out; simp only [List.nil_append]; omega) (by have := H1.out.bel.size; simp; omega) ?_
              intro v2 w2 hown2 hgr2 _
              have H2 := hide (NumSt.append H1.out ((Below.refl _ _).alloc (Nat.le_refl _) _) hown2 hgr2)
              have HL2 := hide (show ([] ++ (ord.drop 0).take (kp + 1) ++ [i]).length = (kp + 1) + 1 by simp only [List.nil_append, List.length_append, HL1.out, List.length_cons, List.length_nil])
              clear hgr2 hown2
              have hnum2 : NumsIn w2 g ord := HNUMY.out.below H2.out.bel
              have hnew3 := nums_news (k := kp + 1) (m := i - (kp + 1)) hnum2
              have hle3 : (((ord.drop (kp + 1)).take (i - (kp + 1))).map fun n : Nat => Value.int .i64 (n : Int)).length = (i - (kp + 1)) * 1 := by rw [List.length_map, List.length_take, List.length_drop]; omega
              clear hnum2
              have HFIN := hide (show insO (dep l) i ord = [] ++ (ord.drop 0).take (kp + 1) ++ [i] ++ (ord.drop (kp + 1)).take (i - (kp + 1)) from by
                rw [insO_at, HKAT.out, List.drop_zero, List.nil_append, List.take_of_length_le (l := ord.drop (kp + 1)) (by rw [List.length_drop]; omega)]
                simp)
              have HN3 := hide hnew3
              have HLE3 := hide hle3
              have HFW := hide (show ∀ v w', NumSt y.val v ([] ++ (ord.drop 0).take (kp + 1) ++ [i] ++ (ord.drop (kp + 1)).take (i - (kp + 1))) w' → NumSt W v (orderE (dep l) (i + 1)) w' from fun v w' hv => by
                rw [HNXT.out, HFIN.out]
                exact (HWR.out.more y.below).onto hv)
              have hle3' : ((ord.drop (kp + 1)).take (i - (kp + 1))).length = i - (kp + 1) := by simpa using hle3
              have HLY := hide hle3'
              clear hnew3 hle3 hle3'
              by_cases hkc : ucap = kp + 1
              · have hik : i - (kp + 1) = 0 := by omega
                have HIK := hide hik
                clear hik
                go_wp2_with (at_builtin; refine Hid.out ?_)
                refine Lib.hid ?_
                refine wpList_append_own _ rfl _ _ 45 rfl y.val.heap.size 3 i0 (.int .i64 0) 1 8 Tryz.underlying45 hi hz0 hz1 hz2 rfl (by decide) _ _ _ rfl H2.out.own ⟨g, 0, none⟩ (i - (kp + 1)) 0 (((ord.drop (kp + 1)).take (i - (kp + 1))).map fun n : Nat => Value.int .i64 (n : Int)) rfl HLE3.out (fun j u hj => absurd (List.getElem?_eq_some_iff.1 hj).1 (by rw [HLE3.out, HIK.out]; omega)) (fun u hu => by obtain ⟨n, _, rfl⟩ := List.mem_map.1 hu; rfl) (by have := HL2.out; rw [this]; unfold maxLen; omega) (by have := HL2.out; rw [this]; omega) H2.out.bel.size ?_
                intro v3 w3 hown3 hgr3 _
                have H3 := hide (HFW.out _ _ (NumSt.appendL (ys := (ord.drop (kp + 1)).take (i - (kp + 1))) H2.out (Below.refl _ _) (by rw [HLY.out]; exact hown3) hgr3))
                clear hown3 hgr3
                go_wp2
                exact ⟨⟨i + 1, by go_num, by omega, H3, hide fun h => absurd h (by omega)⟩, by simp [intOf]; omega⟩
              · go_wp2_with (at_builtin; refine Hid.out ?_)
                refine Lib.hid ?_
                refine wpList_append_own _ rfl _ _ 45 rfl y.val.heap.size 3 i0 (.int .i64 0) 1 8 Tryz.underlying45 hi hz0 hz1 hz2 rfl (by decide) _ _ _ rfl H2.out.own ⟨g, kp + 1, none⟩ (i - (kp + 1)) (ucap - (kp + 1)) (((ord.drop (kp + 1)).take (i - (kp + 1))).map fun n : Nat => Value.int .i64 (n : Int)) rfl HLE3.out HN3.out (fun u hu => by obtain ⟨n, _, rfl⟩ := List.mem_map.1 hu; rfl) (by have := HL2.out; rw [this]; unfold maxLen; omega) (by have := HL2.out; rw [this]; omega) H2.out.bel.size ?_
                intro v3 w3 hown3 hgr3 _
                have H3 := hide (HFW.out _ _ (NumSt.appendL (ys := (ord.drop (kp + 1)).take (i - (kp + 1))) H2.out (Below.refl _ _) (by rw [HLY.out]; exact hown3) hgr3))
                clear hown3 hgr3
                go_wp2
                exact ⟨⟨i + 1, by go_num, by omega, H3, hide fun h => absurd h (by omega)⟩, by simp [intOf]; omega⟩
    · have hii : i = l.length := by omega
      subst hii
      have HBL := hide st.out.bel
      rcases Nat.eq_zero_or_pos l.length with h0 | hp
      · have hu := hnil.out h0
        subst hu
        have H0 := hide h0
        clear st hnil h0
        go_wp2
        go_ret
        exact ⟨none, 0, by rw [H0.out]; rfl, by rw [H0.out]; omega, by decide, HBD.out ⟨wr, HBL.out⟩, fun h => absurd h (by have := H0.out; omega)⟩
      · obtain ⟨g, ucap, rfl, hu1, hu2, hnum⟩ := st.out.nums (by rw [orderE_length]; exact hp)
        rw [orderE_length] at hu1 ⊢
        have HF := hide (And.intro hu2 hnum)
        clear st hnil hnum hu2
        go_wp2
        go_ret
        exact ⟨_, ucap, rfl, hu1, HF.out.1, HBD.out ⟨wr, HBL.out⟩, fun _ => ⟨g, rfl, HF.out.2⟩⟩
end Go.Proofs.YtliehhnnfpkciaaGreatDoor
