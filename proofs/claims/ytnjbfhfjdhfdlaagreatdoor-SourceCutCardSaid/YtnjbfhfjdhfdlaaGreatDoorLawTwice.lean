/- loftblocklaw31.SourceTwice: the walk of the law. -/
import Derived.Test.YtnjbfhfjdhfdlaaGreatDoorSrcFmt
namespace Go.Proofs.YtnjbfhfjdhfdlaaGreatDoor
open Go Go.RowKit

/-- slices.Equal at two slices of names with the same elements -/
theorem equalNames (S C : Sl ByteArray) (he : S.l = C.l) (w : World) (B : Nat) (hS : SlAt w B 1 strCell S) (hC : SlAt w B 1 strCell C) :
    Calls Tryz.prog 20 #[.slice S.A S.l.length S.cap, .slice C.A C.l.length C.cap] w (Gives w (.bool true)) := by
  obtain ⟨A1, c1, l1⟩ := S
  obtain ⟨A2, c2, l2⟩ := C
  simp only at he ⊢
  subst he
  by_cases h0 : 0 < l1.length
  · obtain ⟨b1, o1, e1, hb1, hc1⟩ := hS.2.2 h0
    obtain ⟨b2, o2, e2, hb2, hc2⟩ := hC.2.2 h0
    simp only at e1 e2
    subst e1 e2
    have hm1 : c1 ≤ 9223372036854775807 := hS.2.1
    have hm2 : l1.length ≤ c1 := hS.1
    have key : ∀ {b o : Nat}, (∀ i x, l1[i]? = some x → ∀ j u, (strCell x)[j]? = some u → w.cell? ⟨b, o + (i * 1 + j), none⟩ = some u) → ∀ j, j < l1.length → w.cell? ⟨b, o + j, none⟩ = some (.string (l1.getD j ByteArray.empty)) := fun hc j hj => by
      have h := hc j _ (List.getElem?_eq_getElem hj) 0 _ rfl
      rw [List.getD, List.getElem?_eq_getElem hj]
      rw [show j * 1 + 0 = j by omega] at h
      exact h
    refine (Tryz.slices_Equal_string b1 o1 l1.length c1 b2 o2 l1.length c2 l1 l1 w (Nat.le_refl _) (Nat.le_refl _) (by omega) (by omega) (key hc1) (key hc2)).mono ?_
    rintro e w' ⟨h, q, rfl⟩
    exact ⟨by rw [h]; simp, ⟨rfl, rfl, rfl, Nat.le_refl _, fun _ _ => rfl⟩⟩
  · have hz : l1.length = 0 := by omega
    rw [hz]
    refine (Tryz.slices_Equal_string_empty A1 A2 c1 0 c2 w (by decide)).mono ?_
    rintro e w' ⟨rfl, rfl⟩
    exact ⟨rfl, Below.refl _ _⟩
theorem srcE_names {x : TRes} {h : HouseP} {c : SheetP} {p : Int × Int} (hx : srcE x = ((h, c), p, 0)) : srcN x = ((h.sets.map (·.name), c.cues.map (·.name)), (0, 0), 0) := by
  cases x with
  | bad a b => simp [srcE] at hx
  | good L =>
    cases hr : readR L with
    | error q => simp [srcE, hr] at hx
    | ok v =>
      obtain ⟨⟨h', c'⟩, r⟩ := v
      simp only [srcE, hr] at hx
      by_cases hk : (houseOkP h' && sheetOkP c') = true
      · rw [if_pos hk] at hx
        simp only [Prod.mk.injEq, and_true] at hx
        simp only [srcN, hr]
        rw [hx.1.1, hx.1.2]
      · rw [if_neg hk] at hx
        simp at hx
theorem bs_mk (l : List UInt8) : bs (⟨l.toArray⟩ : ByteArray) = l := bs_of l
/-- the seven things that the law compares -/
structure TwiceD (V : World) (a1 a2 : HouseD) (s1 s2 : SheetD) (N1 N2 M1 M2 : Sl ByteArray) : Prop where
  h1 : HouseD.at_ V V.heap.size a1
  h2 : HouseD.at_ V V.heap.size a2
  c1 : SheetD.at_ V V.heap.size s1
  c2 : SheetD.at_ V V.heap.size s2
  n1 : SlAt V V.heap.size 1 strCell N1
  n2 : SlAt V V.heap.size 1 strCell N2
  m1 : SlAt V V.heap.size 1 strCell M1
  m2 : SlAt V V.heap.size 1 strCell M2
set_option maxRecDepth 100000 in
set_option maxHeartbeats 16000000 in
theorem sourceTwice_any (s : ByteArray) (w : World) (ht : TabsS w) : Calls Tryz.prog 5 #[.string s] w (Gives w (.bool true)) := by
  have KA := hide (Gives.first (awake31_any w ht))
  have HT := hide ht
  clear ht
  go_enter Tryz.func5, Tryz.ntmps5
  go_wp2_with fail
  refine KA.out.mono ?_
  rintro e w' ⟨rfl, y, rfl⟩
  by_cases h1 : (2000 : Int) < (s.size : Int)
  · go_wp2_with fail
    go_ret
    exact Gives.mk rfl y.below
  have K1 := hide (format_any s (by omega) y.val (HT.out.below y.below))
  have hcs := srcE_cases (toks (bs s))
  have hyb := y.below
  have hys := y.size
  have HYB := hide hyb
  rcases hcs with ⟨ph, pc, hE, hv, sv⟩ | hbad
  · by_cases hl : (textP ph pc).length ≤ 262144
    · have hf : fmtE (toks (bs s)) = .tuple #[.string ⟨(textP ph pc).toArray⟩, .agg #[.int .i64 0, .int .i64 0], .int .i64 0] := by
        unfold fmtE; rw [hE]; simp only [hl, if_true]
      rw [hf] at K1
      obtain ⟨T, hT⟩ : ∃ T : ByteArray, T = ⟨(textP ph pc).toArray⟩ := ⟨_, rfl⟩
      have hTb : bs T = textP ph pc := by rw [hT]; exact bs_mk _
      have hTs : T.size ≤ 262144 := by rw [← bs_length, hTb]; exact hl
      have hE2 := srcE_text hv sv
      rw [← hTb] at hE2
      have hf2 : fmtE (toks (bs T)) = .tuple #[.string T, .agg #[.int .i64 0, .int .i64 0], .int .i64 0] := by
        unfold fmtE; rw [hE2]; simp only [hl, if_true]; rw [← hT]
      rw [← hT] at K1
      have K2 := hide (fun (x : World) (hx : Below w.heap.size w x) => (show Calls Tryz.prog 16 #[.string T] x (Gives x (.tuple #[.string T, .agg #[.int .i64 0, .int .i64 0], .int .i64 0])) by rw [← hf2]; exact format_any T hTs x (HT.out.below hx)))
      have K3 := hide (fun (x : World) (hx : Below w.heap.size w x) => (show Calls Tryz.prog 15 #[.string s] x (ParsePost x ((ph, pc), (0, 0), 0)) by rw [← hE]; exact parse_any s (by omega) x (HT.out.below hx)))
      have K4 := hide (fun (x : World) (hx : Below w.heap.size w x) => (show Calls Tryz.prog 15 #[.string T] x (ParsePost x ((ph, pc), (0, 0), 0)) by rw [← hE2]; exact parse_any T hTs x (HT.out.below hx)))
      have K5 := hide (fun (x : World) (hx : Below w.heap.size w x) => (show Calls Tryz.prog 17 #[.string s] x (NamesPost x ((ph.sets.map (·.name), pc.cues.map (·.name)), (0, 0), 0)) by rw [← srcE_names hE]; exact names_any s (by omega) x (HT.out.below hx)))
      have K6 := hide (fun (x : World) (hx : Below w.heap.size w x) => (show Calls Tryz.prog 17 #[.string T] x (NamesPost x ((ph.sets.map (·.name), pc.cues.map (·.name)), (0, 0), 0)) by rw [← srcE_names hE2]; exact names_any T hTs x (HT.out.below hx)))
      clear hE hE2 hf hf2 hT hTb hv sv hl
      go_wp2_with fail
      refine K1.out.mono ?_
      rintro e w1 ⟨rfl, hb1⟩
      have hB1 : Below w.heap.size w w1 := HYB.out.trans (hb1.mono hys)
      obtain ⟨V1, hV1, hs1, hv1, hh1⟩ := boxed w1 (.cells #[.int .i64 0, .int .i64 0] 40)
      have hBV1 : Below w.heap.size w V1 := hB1.trans (hv1.mono hB1.size)
      have HV1 := hide hV1
      clear hV1
      go_upto_region 6 with fail
      rw [← HV1.out]
      go_wp2_with fail
      refine (K2.out V1 hBV1).mono ?_
      rintro e w2 ⟨rfl, hb2⟩
      obtain ⟨V2, hV2, hs2, hv2, hh2⟩ := boxed w2 (.cells #[.int .i64 0, .int .i64 0] 40)
      have hBV2 : Below V1.heap.size V1 V2 := hb2.trans (hv2.mono hb2.size)
      have hBW2 : Below w.heap.size w V2 := hBV1.trans (hBV2.mono hBV1.size)
      have HV2 := hide hV2
      clear hV2
      go_upto_region 9 with fail
      rw [← HV2.out]
      go_wp2_with fail
      refine (K3.out V2 hBW2).mono ?_
      rintro e w3 ⟨hb3, a1, s1, rfl, hA1, hS1, hp1, hq1, -, -, -⟩
      obtain ⟨V3, hV3, hs3, hv3, hh3, hh4, -⟩ := three_boxed w3 (.cells #[.string a1.name, .int .i64 a1.height, .slice a1.sets.A a1.sets.l.length a1.sets.cap, .slice a1.roofs.A a1.roofs.l.length a1.roofs.cap] 25 (0, 0)) (.cells #[.slice s1.cues.A s1.cues.l.length s1.cues.cap, .slice s1.apart.A s1.apart.l.length s1.apart.cap] 29 (0, 0)) (.cells #[.int .i64 0, .int .i64 0] 40 (0, 0))
      have hBV3 : Below V2.heap.size V2 V3 := hb3.trans (hv3.mono hb3.size)
      have hBW3 : Below w.heap.size w V3 := hBW2.trans (hBV3.mono hBW2.size)
      have HV3 := hide hV3
      clear hV3
      go_upto_region 10 with fail
      rw [← HV3.out]
      go_wp2_with fail
      refine (K4.out V3 hBW3).mono ?_
      rintro e w4 ⟨hb4, a2, s2, rfl, hA2, hS2, hp2, hq2, -, -, -⟩
      obtain ⟨V4, hV4, hs4, hv4, hh5, hh6, -⟩ := three_boxed w4 (.cells #[.string a2.name, .int .i64 a2.height, .slice a2.sets.A a2.sets.l.length a2.sets.cap, .slice a2.roofs.A a2.roofs.l.length a2.roofs.cap] 25 (0, 0)) (.cells #[.slice s2.cues.A s2.cues.l.length s2.cues.cap, .slice s2.apart.A s2.apart.l.length s2.apart.cap] 29 (0, 0)) (.cells #[.int .i64 0, .int .i64 0] 40 (0, 0))
      have hBV4 : Below V3.heap.size V3 V4 := hb4.trans (hv4.mono hb4.size)
      have hBW4 : Below w.heap.size w V4 := hBW3.trans (hBV4.mono hBW3.size)
      have HV4 := hide hV4
      clear hV4
      go_upto_region 11 with fail
      rw [← HV4.out]
      go_wp2_with fail
      refine (K5.out V4 hBW4).mono ?_
      rintro e w5 ⟨hb5, N1, M1, rfl, hN1, hM1, hn1, hm1⟩
      have HNM1 := hide (And.intro hn1 hm1)
      clear hn1 hm1
      obtain ⟨V5, hV5, hs5, hv5, hh7⟩ := boxed w5 (.cells #[.int .i64 0, .int .i64 0] 40)
      have hBV5 : Below V4.heap.size V4 V5 := hb5.trans (hv5.mono hb5.size)
      have hBW5 : Below w.heap.size w V5 := hBW4.trans (hBV5.mono hBW4.size)
      have HV5 := hide hV5
      clear hV5
      go_upto_region 12 with fail
      rw [← HV5.out]
      go_wp2_with fail
      refine (K6.out V5 hBW5).mono ?_
      rintro e w6 ⟨hb6, N2, M2, rfl, hN2, hM2, hn2, hm2⟩
      obtain ⟨hn1, hm1⟩ := HNM1.out
      obtain ⟨V, hV6, hs6, hv6, hh8⟩ := boxed w6 (.cells #[.int .i64 0, .int .i64 0] 40)
      have hBV6 : Below V5.heap.size V5 V := hb6.trans (hv6.mono hb6.size)
      have z2 := hb2.size
      have z3 := hb3.size
      have z4 := hb4.size
      have z5 := hb5.size
      have z6 := hb6.size
      have hB45 : Below V4.heap.size V4 V := hBV5.trans (hBV6.mono (by omega))
      have hB36 : Below V3.heap.size V3 V := hBV4.trans (hB45.mono (by omega))
      have hB26 : Below V2.heap.size V2 V := hBV3.trans (hB36.mono (by omega))
      have d2 : V.heap[w2.heap.size]? = _ := (hB26.block w2.heap.size (by omega)).trans hh2
      have d3 : V.heap[w3.heap.size]? = _ := (hB36.block w3.heap.size (by omega)).trans hh3
      have d4 : V.heap[w3.heap.size + 1]? = _ := (hB36.block (w3.heap.size + 1) (by omega)).trans hh4
      have d5 : V.heap[w4.heap.size]? = _ := (hB45.block w4.heap.size (by omega)).trans hh5
      have d6 : V.heap[w4.heap.size + 1]? = _ := (hB45.block (w4.heap.size + 1) (by omega)).trans hh6
      have f2 := fun x : After V.heap.size V => And.intro (x.cells d2 (by omega) 0 _ rfl) (x.cells d2 (by omega) 1 _ rfl)
      have f3 := fun x : After V.heap.size V => HouseD.boxed (h := a1) d3 (by omega) x
      have f4 := fun x : After V.heap.size V => SheetD.boxed (s := s1) d4 (by omega) x
      have f5 := fun x : After V.heap.size V => HouseD.boxed (h := a2) d5 (by omega) x
      have f6 := fun x : After V.heap.size V => SheetD.boxed (s := s2) d6 (by omega) x
      have f0 := And.intro (f2 (After.refl _ _)) (And.intro (f3 (After.refl _ _)) (And.intro (f4 (After.refl _ _)) (And.intro (f5 (After.refl _ _)) (f6 (After.refl _ _)))))
      simp only [After.refl] at f0
      have hA1' := (hA1.to hv3 (show w3.heap.size ≤ V3.heap.size by omega)).to hB36 (show V3.heap.size ≤ V.heap.size by omega)
      have hS1' := (hS1.to hv3 (show w3.heap.size ≤ V3.heap.size by omega)).to hB36 (show V3.heap.size ≤ V.heap.size by omega)
      have hA2' := (hA2.to hv4 (show w4.heap.size ≤ V4.heap.size by omega)).to hB45 (show V4.heap.size ≤ V.heap.size by omega)
      have hS2' := (hS2.to hv4 (show w4.heap.size ≤ V4.heap.size by omega)).to hB45 (show V4.heap.size ≤ V.heap.size by omega)
      have hN1' := (hN1.to hv5 (show w5.heap.size ≤ V5.heap.size by omega)).to hBV6 (show V5.heap.size ≤ V.heap.size by omega)
      have hM1' := (hM1.to hv5 (show w5.heap.size ≤ V5.heap.size by omega)).to hBV6 (show V5.heap.size ≤ V.heap.size by omega)
      have hN2' := hN2.to hv6 (show w6.heap.size ≤ V.heap.size by omega)
      have hM2' := hM2.to hv6 (show w6.heap.size ≤ V.heap.size by omega)
      have KH := hide (Gives.first (sameHouse_any a1 a2 (hp1.trans hp2.symm) V V.heap.size (Nat.le_refl _) hA1' hA2'))
      have KS := hide (fun y : After V.heap.size V => Gives.after (x := y) (Nat.le_refl _) (sameSheet_any s1 s2 (hq1.trans hq2.symm) y.val V.heap.size y.size (hS1'.to y.below (Nat.le_refl _)) (hS2'.to y.below (Nat.le_refl _))))
      have KE1 := hide (fun y : After V.heap.size V => Gives.after (x := y) (Nat.le_refl _) (equalNames N1 N2 (hn1.trans hn2.symm) y.val V.heap.size (hN1'.to y.below (Nat.le_refl _)) (hN2'.to y.below (Nat.le_refl _))))
      have KE2 := hide (fun y : After V.heap.size V => Gives.after (x := y) (Nat.le_refl _) (equalNames M1 M2 (hm1.trans hm2.symm) y.val V.heap.size (hM1'.to y.below (Nat.le_refl _)) (hM2'.to y.below (Nat.le_refl _))))
      have HBW := hide (show Below w.heap.size w V from hBW5.trans (hBV6.mono hBW5.size))
      have HV6 := hide hV6
      clear hV6 hA1' hS1' hA2' hS2' hA1 hS1 hA2 hS2 hN1 hN2 hM1 hM2 hN1' hN2' hM1' hM2' hp1 hq1 hp2 hq2 hn1 hn2 hm1 hm2 hh1 hh2 hh3 hh4 hh5 hh6 hh7 hh8 d2 d3 d4 d5 d6 hb1 hb2 hb3 hb4 hb5 hb6 hv1 hv2 hv3 hv4 hv5 hv6 hB1 hBV1 hBV2 hBW2 hBV3 hBW3 hBV4 hBW4 hBV5 hBW5 hBV6 hB45 hB36 hB26 K1 K2 K3 K4 K5 K6
      have hTT : (T.toList == T.toList) = true := by simp
      go_upto_region 13 with fail
      rw [← HV6.out]
      go_wp2_with (first
        | (go_at_call 18; refine KH.out.mono ?_; rintro e w' ⟨rfl, y1, rfl⟩; have hfy := And.intro (f2 y1) (And.intro (f4 y1) (f6 y1)))
        | (go_at_call 19; refine (KS.out y1).mono ?_; rintro e w' ⟨rfl, y2, rfl⟩)
        | (go_at_call 20; refine (KE2.out y3).mono ?_; rintro e w' ⟨rfl, y4, rfl⟩)
        | (go_at_call 20; refine (KE1.out y2).mono ?_; rintro e w' ⟨rfl, y3, rfl⟩))
      go_ret
      exact Gives.mk rfl (HBW.out.trans (y4.below.mono HBW.out.size))
    · have hf : fmtE (toks (bs s)) = .tuple #[.string ⟨#[]⟩, .agg #[.int .i64 0, .int .i64 0], .int .i64 4] := by
        unfold fmtE; rw [hE]; simp only [hl, if_true, if_false]
      rw [hf] at K1
      clear hE hf hv sv hl
      go_wp2_with fail
      refine K1.out.mono ?_
      rintro e w1 ⟨rfl, hb1⟩
      have HB1 := hide (show Below w.heap.size w w1 from HYB.out.trans (hb1.mono hys))
      clear hb1
      go_wp2_with fail
      go_ret
      exact Gives.mk rfl (HB1.out.alloc HB1.out.size _)
  · have hk : ∃ (p0 p1 k : Int), (k = 7 ∨ k = 1) ∧ fmtE (toks (bs s)) = .tuple #[.string ⟨#[]⟩, .agg #[.int .i64 p0, .int .i64 p1], .int .i64 k] := by
      rcases hbad with ⟨⟨p0, p1⟩, h⟩ | h
      · exact ⟨p0, p1, 7, Or.inl rfl, by unfold fmtE; rw [h]; rfl⟩
      · exact ⟨0, 0, 1, Or.inr rfl, by unfold fmtE; rw [h]; rfl⟩
    obtain ⟨p0, p1, k, hk, hf⟩ := hk
    rw [hf] at K1
    clear hf hbad
    rcases hk with rfl | rfl
    all_goals
      go_wp2_with fail
      refine K1.out.mono ?_
      rintro e w1 ⟨rfl, hb1⟩
      have HB1 := hide (show Below w.heap.size w w1 from HYB.out.trans (hb1.mono hys))
      clear hb1
      go_wp2_with fail
      go_ret
      exact Gives.mk rfl (HB1.out.alloc HB1.out.size _)
end Go.Proofs.YtnjbfhfjdhfdlaaGreatDoor
