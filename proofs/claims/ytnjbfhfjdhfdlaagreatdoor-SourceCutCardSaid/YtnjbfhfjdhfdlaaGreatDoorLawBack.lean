/- loftblocklaw31.SourceBack: the walk of the law. -/
import Derived.Test.YtnjbfhfjdhfdlaaGreatDoorLawTwice
import Derived.Test.YtnjbfhfjdhfdlaaGreatDoorSrcSmall
namespace Go.Proofs.YtnjbfhfjdhfdlaaGreatDoor
open Go Go.RowKit

theorem textV_cases (h : HouseP) (c : SheetP) : (houseOkP h = true ∧ sheetOkP c = true ∧ (textP h c).length ≤ 262144 ∧ textV h c = .tuple #[.string ⟨(textP h c).toArray⟩, .int .i64 0]) ∨
    textV h c = .tuple #[.string ⟨#[]⟩, .int .i64 4] ∨ (houseOkP h = false ∧ textV h c = .tuple #[.string ⟨#[]⟩, .int .i64 1]) ∨ (houseOkP h = true ∧ sheetOkP c = false ∧ textV h c = .tuple #[.string ⟨#[]⟩, .int .i64 1]) := by
  unfold textV textE
  cases hv : houseOkP h with
  | false => exact Or.inr (Or.inr (Or.inl ⟨rfl, by simp⟩))
  | true =>
    cases sv : sheetOkP c with
    | false => exact Or.inr (Or.inr (Or.inr ⟨rfl, rfl, by simp⟩))
    | true =>
      by_cases hl : (textP h c).length ≤ 262144
      · exact Or.inl ⟨rfl, rfl, hl, by simp [hl]⟩
      · exact Or.inr (Or.inl (by simp [hl]))
set_option maxRecDepth 100000 in
set_option maxHeartbeats 16000000 in
theorem sourceBack_any (h : HouseD) (s : SheetD) (hok : h.ok) (sok : s.ok) (w : World) (ht : TabsS w) (B : Nat) (hB : B ≤ w.heap.size) (hat : HouseD.at_ w B h) (sat : SheetD.at_ w B s) :
    Calls Tryz.prog 4 #[.agg #[.string h.name, .int .i64 h.height, .slice h.sets.A h.sets.l.length h.sets.cap, .slice h.roofs.A h.roofs.l.length h.roofs.cap], .agg #[.slice s.cues.A s.cues.l.length s.cues.cap, .slice s.apart.A s.apart.l.length s.apart.cap]] w (Gives w (.bool true)) := by
  obtain ⟨W1, hW1, hs1, hb1, hh1⟩ := boxed w (.cells #[.string h.name, .int .i64 h.height, .slice h.sets.A h.sets.l.length h.sets.cap, .slice h.roofs.A h.roofs.l.length h.roofs.cap] 25)
  obtain ⟨W, hW2, hs2, hb2, hh2⟩ := boxed W1 (.cells #[.slice s.cues.A s.cues.l.length s.cues.cap, .slice s.apart.A s.apart.l.length s.apart.cap] 29)
  have hb : Below w.heap.size w W := hb1.trans (hb2.mono (by omega))
  have hh1' := (hb2.block _ (by omega)).trans hh1
  rw [hs1] at hh2
  have hc := fun y : After W.heap.size W => And.intro (HouseD.boxed hh1' (by omega) y) (SheetD.boxed hh2 (by omega) y)
  have hbd : ∀ y : After W.heap.size W, Below w.heap.size w y.val := fun y => hb.trans (y.below.mono (by omega))
  have hatW := hat.to (hb.mono hB) (show B ≤ W.heap.size by omega)
  have satW := sat.to (hb.mono hB) (show B ≤ W.heap.size by omega)
  have htW := ht.below hb
  have KA := hide (Gives.first (awake31_any W htW))
  have KF := hide (fun y : After W.heap.size W => few_any h s y.val W.heap.size y.size (hatW.to y.below (Nat.le_refl _)) (satW.to y.below (Nat.le_refl _)))
  have KT := hide (fun (hmv : ∀ q ∈ s.cues.l, q.moves.l.length ≤ 20) (y : After W.heap.size W) => Gives.after (x := y) (Nat.le_refl _) (text_full h s hok sok (fun q hq => Nat.le_trans (hmv q hq) (by decide)) y.val (htW.below y.below).1 W.heap.size y.size (hatW.to y.below (Nat.le_refl _)) (satW.to y.below (Nat.le_refl _))))
  have KV := hide (fun y : After W.heap.size W => Gives.after (x := y) (Nat.le_refl _) (houseValid_any h hok y.val W.heap.size y.size (hatW.to y.below (Nat.le_refl _))))
  have KW := hide (fun (hmv : ∀ q ∈ s.cues.l, q.moves.l.length ≤ 20) (y : After W.heap.size W) => Gives.after (x := y) (Nat.le_refl _) (writable_any s sok y.val W.heap.size y.size (satW.to y.below (Nat.le_refl _)) (fun q hq => Nat.le_trans (hmv q hq) (by decide))))
  have e1 := houseOk_plain h
  have e2 := sheetB_plain s
  have HAT := hide (And.intro hatW satW)
  have HTW := hide htW
  have HBD := hide hbd
  have HH1 := hide hh1'
  have HH2 := hide hh2
  have HW := hide (show (w.alloc (.cells #[.string h.name, .int .i64 h.height, .slice h.sets.A h.sets.l.length h.sets.cap, .slice h.roofs.A h.roofs.l.length h.roofs.cap] 25)).alloc (.cells #[.slice s.cues.A s.cues.l.length s.cues.cap, .slice s.apart.A s.apart.l.length s.apart.cap] 29) = W by rw [← hW1, ← hW2])
  clear hW1 hW2 hb1 hb2 hh1 hh2 hh1' hat sat hatW satW hb hbd hok sok ht htW
  have hWsz : w.heap.size + 1 < W.heap.size := by omega
  go_enter Tryz.func4, Tryz.ntmps4
  go_upto_region 1 with fail
  rw [HW.out]
  go_wp2_with fail
  refine KA.out.mono ?_
  rintro e w' ⟨rfl, y, rfl⟩
  have hcy := hc y
  go_wp2_with fail
  refine (KF.out y).mono ?_
  rintro e w2 ⟨r, rfl, hbf, hmv0⟩
  obtain ⟨z, hz⟩ : ∃ z : After W.heap.size W, z.val = w2 := ⟨⟨w2, y.below.trans (hbf.mono y.size)⟩, rfl⟩
  rw [← hz]
  have hcz := hc z
  clear hbf hz
  cases r
  · go_wp2_with fail
    go_ret
    exact Gives.mk rfl (HBD.out z)
  have HMV := hide (hmv0 rfl)
  have KT2 := hide (KT.out HMV.out z)
  have KW2 := hide (KW.out HMV.out)
  clear hmv0 KT KW
  rcases textV_cases h.pl s.pl with ⟨hv, sv, hl, hT⟩ | hT | ⟨hv, hT⟩ | ⟨hv, sv, hT⟩
  · rw [hT] at KT2
    obtain ⟨T, hTT⟩ : ∃ T : ByteArray, T = ⟨(textP h.pl s.pl).toArray⟩ := ⟨_, rfl⟩
    have hTb : bs T = textP h.pl s.pl := by rw [hTT]; exact bs_mk _
    have hTs : T.size ≤ 262144 := by rw [← bs_length, hTb]; exact hl
    have hE2 := srcE_text hv sv
    rw [← hTb] at hE2
    have hf2 : fmtE (toks (bs T)) = .tuple #[.string T, .agg #[.int .i64 0, .int .i64 0], .int .i64 0] := by
      unfold fmtE; rw [hE2]; simp only [hl, if_true]; rw [← hTT]
    rw [← hTT] at KT2
    have K2 := hide (fun (x : World) (hx : Below W.heap.size W x) => (show Calls Tryz.prog 16 #[.string T] x (Gives x (.tuple #[.string T, .agg #[.int .i64 0, .int .i64 0], .int .i64 0])) by rw [← hf2]; exact format_any T hTs x (HTW.out.below hx)))
    have K4 := hide (fun (x : World) (hx : Below W.heap.size W x) => (show Calls Tryz.prog 15 #[.string T] x (ParsePost x ((h.pl, s.pl), (0, 0), 0)) by rw [← hE2]; exact parse_any T hTs x (HTW.out.below hx)))
    have K6 := hide (fun (x : World) (hx : Below W.heap.size W x) => (show Calls Tryz.prog 17 #[.string T] x (NamesPost x ((h.pl.sets.map (·.name), s.pl.cues.map (·.name)), (0, 0), 0)) by rw [← srcE_names hE2]; exact names_any T hTs x (HTW.out.below hx)))
    clear hE2 hf2 hTT hTb hv sv hl hT KV KW2
    go_wp2_with fail
    refine KT2.out.mono ?_
    rintro e w' ⟨rfl, y1, rfl⟩
    go_wp2_with fail
    refine (K4.out y1.val y1.below).mono ?_
    rintro e w3 ⟨hb3, a1, s1, rfl, hA1, hS1, hp1, hq1, -, -, -⟩
    have HPQ := hide (And.intro hp1 hq1)
    clear hp1 hq1
    obtain ⟨V3, hV3, hs3, hv3, hh3, hh4, hh5⟩ := three_boxed w3 (.cells #[.string a1.name, .int .i64 a1.height, .slice a1.sets.A a1.sets.l.length a1.sets.cap, .slice a1.roofs.A a1.roofs.l.length a1.roofs.cap] 25 (0, 0)) (.cells #[.slice s1.cues.A s1.cues.l.length s1.cues.cap, .slice s1.apart.A s1.apart.l.length s1.apart.cap] 29 (0, 0)) (.cells #[.int .i64 0, .int .i64 0] 40 (0, 0))
    have hBV3 : Below y1.val.heap.size y1.val V3 := hb3.trans (hv3.mono hb3.size)
    have hBW3 : Below W.heap.size W V3 := y1.below.trans (hBV3.mono y1.size)
    have HV3 := hide hV3
    clear hV3
    go_upto_region 9 with fail
    rw [← HV3.out]
    go_wp2_with fail
    refine (K2.out V3 hBW3).mono ?_
    rintro e w4 ⟨rfl, hb4⟩
    obtain ⟨V4, hV4, hs4, hv4, hh6⟩ := boxed w4 (.cells #[.int .i64 0, .int .i64 0] 40)
    have hBV4 : Below V3.heap.size V3 V4 := hb4.trans (hv4.mono hb4.size)
    have hBW4 : Below W.heap.size W V4 := hBW3.trans (hBV4.mono hBW3.size)
    have HV4 := hide hV4
    clear hV4
    go_upto_region 10 with fail
    rw [← HV4.out]
    go_wp2_with fail
    refine (K6.out V4 hBW4).mono ?_
    rintro e w5 ⟨hb5, ⟨nA, nc, nl⟩, ⟨mA, mc, ml⟩, rfl, -, -, hn1, hm1⟩
    simp only at hn1 hm1 ⊢
    have hnl : ((nl.length : Int) == (h.sets.l.length : Int)) = true := by rw [hn1]; simp [HouseD.pl]
    have hml : ((ml.length : Int) == (s.cues.l.length : Int)) = true := by rw [hm1]; simp [SheetD.pl]
    clear hn1 hm1
    obtain ⟨V, hV5, hs5, hv5, hh7⟩ := boxed w5 (.cells #[.int .i64 0, .int .i64 0] 40)
    have z0 := y1.size
    have z3 := hb3.size
    have z4 := hb4.size
    have z5 := hb5.size
    have hBV5 : Below V4.heap.size V4 V := hb5.trans (hv5.mono hb5.size)
    have hB35 : Below V3.heap.size V3 V := hBV4.trans (hBV5.mono (by omega))
    have hBWV : Below W.heap.size W V := hBW4.trans (hBV5.mono hBW4.size)
    have d1 : V.heap[w.heap.size]? = _ := (hBWV.block w.heap.size (by omega)).trans HH1.out
    have d2 : V.heap[w.heap.size + 1]? = _ := (hBWV.block (w.heap.size + 1) (by omega)).trans HH2.out
    have d3 : V.heap[w3.heap.size]? = _ := (hB35.block w3.heap.size (by omega)).trans hh3
    have d4 : V.heap[w3.heap.size + 1]? = _ := (hB35.block (w3.heap.size + 1) (by omega)).trans hh4
    have d5 : V.heap[w3.heap.size + 1 + 1]? = _ := (hB35.block (w3.heap.size + 1 + 1) (by omega)).trans hh5
    have d6 : V.heap[w4.heap.size]? = _ := (hBV5.block w4.heap.size (by omega)).trans hh6
    have f1 := fun x : After V.heap.size V => HouseD.boxed (h := h) d1 (by omega) x
    have f2 := fun x : After V.heap.size V => SheetD.boxed (s := s) d2 (by omega) x
    have f3 := fun x : After V.heap.size V => HouseD.boxed (h := a1) d3 (by omega) x
    have f4 := fun x : After V.heap.size V => SheetD.boxed (s := s1) d4 (by omega) x
    have f5 := fun x : After V.heap.size V => And.intro (x.cells d5 (by omega) 0 _ rfl) (x.cells d5 (by omega) 1 _ rfl)
    have f6 := fun x : After V.heap.size V => And.intro (x.cells d6 (by omega) 0 _ rfl) (x.cells d6 (by omega) 1 _ rfl)
    have f0 := And.intro (f1 (After.refl _ _)) (And.intro (f2 (After.refl _ _)) (And.intro (f3 (After.refl _ _)) (And.intro (f4 (After.refl _ _)) (And.intro (f5 (After.refl _ _)) (f6 (After.refl _ _))))))
    simp only [After.refl] at f0
    have hA1' := (hA1.to hv3 (show w3.heap.size ≤ V3.heap.size by omega)).to hB35 (show V3.heap.size ≤ V.heap.size by omega)
    have hS1' := (hS1.to hv3 (show w3.heap.size ≤ V3.heap.size by omega)).to hB35 (show V3.heap.size ≤ V.heap.size by omega)
    have hA0' := HAT.out.1.to hBWV (show W.heap.size ≤ V.heap.size from hBWV.size)
    have hS0' := HAT.out.2.to hBWV (show W.heap.size ≤ V.heap.size from hBWV.size)
    have KH := hide (Gives.first (sameHouse_any h a1 HPQ.out.1.symm V V.heap.size (Nat.le_refl _) hA0' hA1'))
    have KS := hide (fun y : After V.heap.size V => Gives.after (x := y) (Nat.le_refl _) (sameSheet_any s s1 HPQ.out.2.symm y.val V.heap.size y.size (hS0'.to y.below (Nat.le_refl _)) (hS1'.to y.below (Nat.le_refl _))))
    have HBW := hide (show Below w.heap.size w V from HBD.out ⟨V, hBWV⟩)
    have HV6 := hide hV5
    have hTT : (T.toList == T.toList) = true := by simp
    clear hV5 hA1' hS1' hA0' hS0' hA1 hS1 hh3 hh4 hh5 hh6 hh7 d1 d2 d3 d4 d5 d6 hb3 hb4 hb5 hv3 hv4 hv5 hBV3 hBW3 hBV4 hBW4 hBV5 hB35 hBWV K2 K4 K6 hcy hcz
    go_upto_region 11 with fail
    rw [← HV6.out]
    go_wp2_with (first
      | (go_at_call 18; refine KH.out.mono ?_; rintro e w' ⟨rfl, y1, rfl⟩; have hfy := And.intro (f2 y1) (And.intro (f4 y1) (f6 y1)))
      | (go_at_call 19; refine (KS.out y1).mono ?_; rintro e w' ⟨rfl, y2, rfl⟩; have hfz := And.intro (f1 y2) (And.intro (f2 y2) (f6 y2))))
    go_ret
    exact Gives.mk rfl (HBW.out.trans (y2.below.mono HBW.out.size))
  · rw [hT] at KT2
    clear hT
    go_wp2_with fail
    refine KT2.out.mono ?_
    rintro e w' ⟨rfl, y1, rfl⟩
    have hcy1 := hc y1
    go_wp2_with fail
    go_ret
    exact Gives.mk rfl (HBD.out y1)
  · rw [hT] at KT2
    rw [e1, hv] at KV
    clear hT
    go_wp2_with fail
    refine KT2.out.mono ?_
    rintro e w' ⟨rfl, y1, rfl⟩
    have hcy1 := hc y1
    go_wp2_with (go_at_call 14; refine (KV.out y1).mono ?_; rintro e w' ⟨rfl, y2, rfl⟩; have hcy2 := hc y2)
    go_ret
    exact Gives.mk rfl (HBD.out y2)
  · rw [hT] at KT2
    rw [e1, hv] at KV
    rw [e2, sv] at KW2
    clear hT
    go_wp2_with fail
    refine KT2.out.mono ?_
    rintro e w' ⟨rfl, y1, rfl⟩
    have hcy1 := hc y1
    go_wp2_with (first
      | (go_at_call 14; refine (KV.out y1).mono ?_; rintro e w' ⟨rfl, y2, rfl⟩; have hcy2 := hc y2)
      | (go_at_call 12; refine (KW2.out y2).mono ?_; rintro e w' ⟨rfl, y3, rfl⟩; have hcy3 := hc y3))
    go_ret
    exact Gives.mk rfl (HBD.out y3)
end Go.Proofs.YtnjbfhfjdhfdlaaGreatDoor
