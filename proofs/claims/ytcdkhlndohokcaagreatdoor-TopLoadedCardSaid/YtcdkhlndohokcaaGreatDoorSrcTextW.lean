/- source.Text: the walk. -/
import Derived.Test.YtcdkhlndohokcaaGreatDoorSrcSetLn
import Derived.Test.YtcdkhlndohokcaaGreatDoorSrcAt
namespace Go.Proofs.YtcdkhlndohokcaaGreatDoor
open Go Go.RowKit

/-- what Text returns of a text: it, or nothing if it is too long -/
def textE (T : List UInt8) : Value := if T.length ≤ 262144 then .tuple #[.string ⟨T.toArray⟩, .int .i64 0] else .tuple #[.string ⟨#[]⟩, .int .i64 4]
/-- the lines that are still to be written -/
def Pend (T : List UInt8) (ls : List (List Wd)) (TT : List UInt8) : Prop := T ++ ls.flatMap lineT = TT
theorem Pend.line {T TT : List UInt8} {a : List Wd} {ls : List (List Wd)} (h : Pend T (a :: ls) TT) {D : Nat} (hD : TT.length = D) : (T ++ (lineT a ++ ls.flatMap lineT)).length = D ∧ Pend (T ++ lineT a) ls TT := by
  unfold Pend at h ⊢
  rw [List.flatMap_cons] at h
  exact ⟨by rw [h]; exact hD, by rw [List.append_assoc]; exact h⟩
theorem drop_map {α : Type} {l : List α} {k : Nat} {x : α} (f : α → List Wd) (h : l[k]? = some x) (ls : List (List Wd)) : (l.drop k).map f ++ ls = f x :: ((l.drop (k + 1)).map f ++ ls) := by
  have hk := (List.getElem?_eq_some_iff.1 h).1
  have e := (List.getElem?_eq_some_iff.1 h).2
  rw [List.drop_eq_getElem_cons hk, e]; rfl
theorem drop_flat {α : Type} {l : List α} {k : Nat} {x : α} (f : α → List (List Wd)) (h : l[k]? = some x) (ls : List (List Wd)) : (l.drop k).flatMap f ++ ls = f x ++ ((l.drop (k + 1)).flatMap f ++ ls) := by
  have hk := (List.getElem?_eq_some_iff.1 h).1
  have e := (List.getElem?_eq_some_iff.1 h).2
  rw [List.drop_eq_getElem_cons hk, e, List.flatMap_cons, List.append_assoc]
set_option maxRecDepth 100000 in
set_option maxHeartbeats 16000000 in
theorem text_any (h : HouseD) (s : SheetD) (hok : h.ok) (sok : s.ok) (hv : houseOk h = true) (sv : sheetB s = true) (hmv : ∀ q ∈ s.cues.l, q.moves.l.length ≤ 1000000) (w : World) (ht : Tabs w) (B : Nat) (hB : B ≤ w.heap.size) (hat : HouseD.at_ w B h) (sat : SheetD.at_ w B s) (D : Nat) (hD : D ≤ 140737488355328) (hDl : (textP h.pl s.pl).length = D) :
    Calls Tryz.prog 25 #[.agg #[.string h.name, .int .i64 h.height, .slice h.sets.A h.sets.l.length h.sets.cap, .slice h.roofs.A h.roofs.l.length h.roofs.cap], .agg #[.slice s.cues.A s.cues.l.length s.cues.cap, .slice s.apart.A s.apart.l.length s.apart.cap]] w (Gives w (textE (textP h.pl s.pl))) := by
  obtain ⟨W1, hW1, hs1, hb1, hh1⟩ := boxed w (.cells #[.string h.name, .int .i64 h.height, .slice h.sets.A h.sets.l.length h.sets.cap, .slice h.roofs.A h.roofs.l.length h.roofs.cap] 54)
  obtain ⟨W, hW2, hs2, hb2, hh2⟩ := boxed W1 (.cells #[.slice s.cues.A s.cues.l.length s.cues.cap, .slice s.apart.A s.apart.l.length s.apart.cap] 60)
  have hb : Below w.heap.size w W := hb1.trans (hb2.mono (by omega))
  have hh1' := (hb2.block _ (by omega)).trans hh1
  rw [hs1] at hh2
  have hc := fun y : After W.heap.size W => And.intro (HouseD.boxed hh1' (by omega) y) (SheetD.boxed hh2 (by omega) y)
  have hc0 := hc (After.refl _ _)
  simp only [After.refl] at hc0
  have hbd : ∀ y : After W.heap.size W, Below w.heap.size w y.val := fun y => hb.trans (y.below.mono (by omega))
  have hatW := hat.to (hb.mono hB) (show B ≤ W.heap.size by omega)
  have satW := sat.to (hb.mono hB) (show B ≤ W.heap.size by omega)
  have KV := hide (Gives.first (houseValid_any h hok W W.heap.size (Nat.le_refl _) hatW))
  have KW := hide (fun y : After W.heap.size W => Gives.after (x := y) (Nat.le_refl _) (writable_any s sok y.val W.heap.size y.size (satW.to y.below (Nat.le_refl _)) hmv))
  rw [hv] at KV
  rw [sv] at KW
  have hm1 : h.roofs.cap ≤ 9223372036854775807 := hat.roofs.2.1
  have hm2 : h.roofs.l.length ≤ h.roofs.cap := hat.roofs.1
  have hm3 : h.sets.cap ≤ 9223372036854775807 := hat.sets.2.1
  have hm4 : h.sets.l.length ≤ h.sets.cap := hat.sets.1
  have hm5 : s.cues.cap ≤ 9223372036854775807 := sat.cues.2.1
  have hm6 : s.cues.l.length ≤ s.cues.cap := sat.cues.1
  have hm7 : s.apart.cap ≤ 9223372036854775807 := sat.apart.2.1
  have hm8 : s.apart.l.length ≤ s.apart.cap := sat.apart.1
  have HLN := hide (lines_two hv)
  have HAT := hide hatW
  have SAT := hide satW
  have HOK := hide hok
  have SOK := hide sok
  have HBD := hide hbd
  have HT := hide (ht.below hb)
  have HDL := hide hDl
  have HW := hide (show (w.alloc (.cells #[.string h.name, .int .i64 h.height, .slice h.sets.A h.sets.l.length h.sets.cap, .slice h.roofs.A h.roofs.l.length h.roofs.cap] 54)).alloc (.cells #[.slice s.cues.A s.cues.l.length s.cues.cap, .slice s.apart.A s.apart.l.length s.apart.cap] 60) = W by rw [← hW1, ← hW2])
  clear hW1 hW2 hb1 hb2 hh1 hh2 hh1' hat sat hatW satW hb hbd hok sok ht hDl hv sv hmv
  obtain ⟨E, hE⟩ : ∃ E, E = textE (textP h.pl s.pl) := ⟨_, rfl⟩
  rw [← hE]
  have HE := hide hE
  clear hE
  obtain ⟨hn, hht, ⟨sA, sc, sl⟩, ⟨rA, rc, rl⟩⟩ := h
  obtain ⟨⟨cA, cc, cl⟩, ⟨pA, pc, pl⟩⟩ := s
  simp only at *
  go_enter Tryz.func25, Tryz.ntmps25
  go_upto_region 1 with fail
  rw [HW.out]
  go_upto_region 4 with (first
    | (go_at_call 48; refine KV.out.mono ?_; rintro e w' ⟨rfl, y, rfl⟩; have hcy := hc y)
    | (go_at_call 49; refine (KW.out y).mono ?_; rintro e w' ⟨rfl, y2, rfl⟩; have hcy2 := hc y2))
  obtain ⟨X, hX, hXs, hXb, hXh⟩ := boxed y2.val (.cells #[.pointer none, .slice none 0 0] 90 (0, 0))
  have hst : TSt W y2.val.heap.size [] X := by rw [hX]; exact TSt.fresh W y2.val y2.below
  obtain ⟨b, hbb⟩ : ∃ b, b = y2.val.heap.size := ⟨_, rfl⟩
  rw [← hbb] at hst ⊢
  rw [← hX]
  obtain ⟨TT, hTT⟩ : ∃ TT, TT = textP ⟨hn, hht, sl.map SetD.pl, rl⟩ ⟨cl.map CueD.pl, pl⟩ := ⟨_, rfl⟩
  have HDT := hide (show TT.length = D by rw [hTT]; exact HDL.out)
  obtain ⟨ls1, hls1⟩ : ∃ ls, ls = (sl.map SetD.pl).flatMap setLns ++ ((cl.map CueD.pl).flatMap cueLns ++ pl.map apartLn) := ⟨_, rfl⟩
  have hp0 : Pend [] (houseLn ⟨hn, hht, sl.map SetD.pl, rl⟩ :: (rl.map roofLn ++ ls1)) TT := by
    unfold Pend
    rw [hTT, hls1, textP, linesP]
    rw [List.nil_append, List.append_assoc, List.append_assoc]
  obtain ⟨hp1, hp2⟩ := hp0.line HDT.out
  have KH := hide (lineHouse_any (h := ⟨hn, hht, sl.map SetD.pl, rl⟩) hst HT.out HOK.out.height hD hp1)
  have hcX := hc ⟨X, hst.bel⟩
  have hcX2 := fun o => hc ⟨X.alloc o, hst.bel.alloc hst.bel.size o⟩
  simp only at hcX hcX2
  have HP := hide hp2
  have HLS1 := hide hls1
  have HTT := hide hTT
  clear hX hXs hXb hXh hst hbb hTT hls1 hp0 hp1 hp2 hcy hcy2 hc0
  go_wp2_with fail
  refine KH.out.mono ?_
  rintro e w1 ⟨rfl, hst1, -⟩
  have HS1 := hide hst1
  have hcw := hc ⟨w1, hst1.bel⟩
  simp only at hcw
  clear hst1 KH hcX hcX2
  go_wp2_with fail
  go_loopw [8, 40] (fun _ v wr => ∃ (k : Nat) (T : List UInt8), v = .int .i64 k ∧ k ≤ rl.length ∧ Hid (TSt W b T wr) ∧ Hid (Pend T ((rl.drop k).map roofLn ++ ls1) TT)) (fun _ v _ => rl.length - (intOf v).toNat)
  case atStart => exact ⟨0, _, rfl, Nat.zero_le _, HS1, HP⟩
  case round =>
    obtain ⟨k, T, rfl, hk, hst, hpe⟩ := hrel
    have hcw := hc ⟨wr, hst.out.bel⟩
    simp only at hcw
    by_cases hlt : k < rl.length
    · obtain ⟨rb, ro, hA, hrb, hcell⟩ := HAT.out.roofs.2.2 (show 0 < rl.length by omega)
      simp only at hA
      subst hA
      obtain ⟨r, hr⟩ : ∃ r, rl[k]? = some r := ⟨rl[k], List.getElem?_eq_getElem hlt⟩
      have he := RoofD.elem hr hrb hcell ⟨wr, hst.out.bel⟩
      simp only at he
      have hro := HOK.out.roofs r (List.mem_of_getElem? hr)
      obtain ⟨V, hV, hVs, hVb, hVh⟩ := boxed wr (.cells #[.string r.name, .int .i64 r.fro, .int .i64 r.til, .int .i64 r.most] 94)
      have hcV := RoofD.boxed (B := V.heap.size) hVh (by omega) (After.refl _ _)
      have hcV2 := fun o : Obj => RoofD.boxed (B := V.heap.size) hVh (by omega) ⟨V.alloc o, (Below.refl _ _).alloc (Nat.le_refl _) o⟩
      simp only [After.refl] at hcV hcV2
      have hp := hpe.out
      rw [drop_map roofLn hr] at hp
      obtain ⟨hp1, hp2⟩ := hp.line HDT.out
      have KL := hide (lineRoof_any (r := r) (hst.out.more hVb) HT.out hro.fro hro.til hro.most hD hp1)
      have HP2 := hide hp2
      have HV := hide hV
      clear hcell hr hV hVs hVb hVh hp hp1 hp2 hro
      go_upto_region 8 with fail
      rw [← HV.out]
      go_wp2_with fail
      refine KL.out.mono ?_
      rintro e w2 ⟨rfl, hst2, -⟩
      have HS2 := hide hst2
      clear hst2 KL
      go_wp2_with fail
      exact ⟨⟨k + 1, _, by go_num, by omega, HS2, HP2⟩, by simp [intOf]; omega⟩
    · have hp := hpe.out
      rw [show rl.drop k = [] from List.drop_eq_nil_of_le (by omega), List.map_nil, List.nil_append] at hp
      have HP1 := hide hp
      clear hp hpe
      go_wp2_with fail
      go_loopw [10, 59] (fun _ v wr => ∃ (k : Nat) (T : List UInt8), v = .int .i64 k ∧ k ≤ sl.length ∧ Hid (TSt W b T wr) ∧ Hid (Pend T (((sl.map SetD.pl).drop k).flatMap setLns ++ ((cl.map CueD.pl).flatMap cueLns ++ pl.map apartLn)) TT)) (fun _ v _ => sl.length - (intOf v).toNat)
      case atStart => exact ⟨0, _, rfl, Nat.zero_le _, hst, hide (by have h := HP1.out; rw [HLS1.out] at h; exact h)⟩
      case round =>
        obtain ⟨k2, T2, rfl, hk2, hst2, hpe2⟩ := hrel
        have hcw2 := hc ⟨wr, hst2.out.bel⟩
        simp only at hcw2
        by_cases hlt2 : k2 < sl.length
        · obtain ⟨sb, so, hA, hsb, hcell⟩ := HAT.out.sets.2.2 (show 0 < sl.length by omega)
          simp only at hA
          subst hA
          obtain ⟨⟨qn, qd, ql, qh, qe, ⟨qA, qc, qll⟩, qp, qr, qu, qm, qb, ⟨iA, ic, il⟩, ⟨bA, bc, bl⟩⟩, hq⟩ : ∃ q, sl[k2]? = some q := ⟨sl[k2], List.getElem?_eq_getElem hlt2⟩
          have hmem := List.mem_of_getElem? hq
          have he := SetD.elem hq hsb hcell ⟨wr, hst2.out.bel⟩
          simp only at he
          have hqo := HOK.out.sets _ hmem
          have hqa := HAT.out.each _ hmem
          have hqm : (sl.map SetD.pl)[k2]? = some (SetD.pl ⟨qn, qd, ql, qh, qe, ⟨qA, qc, qll⟩, qp, qr, qu, qm, qb, ⟨iA, ic, il⟩, ⟨bA, bc, bl⟩⟩) := by simp [hq]
          obtain ⟨V, hV, hVs, hVb, hVh⟩ := boxed wr (.cells #[.string qn, .int .i64 qd, .int .i64 ql, .int .i64 qh, .int .i64 qe, .slice qA qll.length qc, .int .i64 qp, .int .i64 qr, .int .i64 qu, .int .i64 qm, .int .i64 qb, .slice iA il.length ic, .slice bA bl.length bc] 26)
          have hp := hpe2.out
          rw [drop_flat setLns hqm] at hp
          have hi1 : ic ≤ 9223372036854775807 := hqa.items.2.1
          have hi2 : il.length ≤ ic := hqa.items.1
          have hi3 : bc ≤ 9223372036854775807 := hqa.bricks.2.1
          have hi4 : bl.length ≤ bc := hqa.bricks.1
          have HV := hide hV
          have HPS := hide hp
          have HQO := hide hqo
          have HQA := hide hqa
          obtain ⟨gs, hgs⟩ : ∃ g, g = wr.heap.size := ⟨_, rfl⟩
          have HVH := hide hVh
          rw [← hgs] at HVH
          have HSTV := hide (hst2.out.more hVb)
          have HGS := hide hgs
          have HQ := hide hq
          have HQM := hide hqm
          clear hcell hq hV hVs hVb hVh hp hqo hqa hmem hqm hgs
          go_upto_region 13 with fail
          rw [← HV.out, ← HGS.out]
          obtain ⟨ls2, hls2⟩ : ∃ ls, ls = (((sl.map SetD.pl).drop (k2 + 1)).flatMap setLns ++ ((cl.map CueD.pl).flatMap cueLns ++ pl.map apartLn)) := ⟨_, rfl⟩
          have HLS2 := hide hls2
          clear hls2
          go_cut [88] (fun _ wx => ∃ T : List UInt8, Hid (TSt W b T wx) ∧ Hid (Pend T (il.map itemLn ++ (bl.map brickLn ++ ls2)) TT) ∧ wx.heap[gs]? = some (.cells #[.string qn, .int .i64 qd, .int .i64 ql, .int .i64 qh, .int .i64 qe, .slice qA qll.length qc, .int .i64 qp, .int .i64 qr, .int .i64 qu, .int .i64 qm, .int .i64 qb, .slice iA il.length ic, .slice bA bl.length bc] 26 (0, 0)))
          case first =>
            obtain ⟨hl2, hl10⟩ := HLN.out _ (List.mem_of_getElem? HQ.out)
            simp only at hl2 hl10
            obtain ⟨lb, lo, hA, -, -⟩ := HQA.out.lines.2.2 (show 0 < qll.length by omega)
            simp only at hA
            subst hA
            have HSL := hide (fun (u : World) (hu : Below W.heap.size W u) => lines_news (HQA.out.lines.below hu))
            obtain ⟨i0, hi0, hz0, hs0, hb0⟩ := info_parts infoInt
            have HI0 := hide (And.intro hi0 (And.intro hz0 (And.intro hs0 hb0)))
            have hcS := fun (y : World) (hy : y.heap[gs]? = some (.cells #[.string qn, .int .i64 qd, .int .i64 ql, .int .i64 qh, .int .i64 qe, .slice (some ⟨lb, lo, none⟩) qll.length qc, .int .i64 qp, .int .i64 qr, .int .i64 qu, .int .i64 qm, .int .i64 qb, .slice iA il.length ic, .slice bA bl.length bc] 26 (0, 0))) => SetD.boxed (s := ⟨qn, qd, ql, qh, qe, ⟨some ⟨lb, lo, none⟩, qc, qll⟩, qp, qr, qu, qm, qb, ⟨iA, ic, il⟩, ⟨bA, bc, bl⟩⟩) (B := y.heap.size) hy (Array.getElem?_eq_some_iff.1 hy).1 (After.refl _ _)
            simp only [After.refl] at hcS
            have hwv := HSTV.out.bel.size
            have HK1 := hide (fun o : Obj => (heap_alloc_old V o (Array.getElem?_eq_some_iff.1 HVH.out).1).trans HVH.out)
            have HK2 := hide (fun o o' : Obj => (heap_alloc_old (V.alloc o) o' (Array.getElem?_eq_some_iff.1 (HK1.out o)).1).trans (HK1.out o))
            have HB1 := hide (fun o : Obj => ((HSTV.out.bel.alloc HSTV.out.bel.size o).drew : Below W.heap.size W (V.alloc o).drew))
            have HB2 := hide (fun o o' : Obj => (((HSTV.out.bel.alloc HSTV.out.bel.size o).alloc (HSTV.out.bel.alloc HSTV.out.bel.size o).size o').drew : Below W.heap.size W ((V.alloc o).alloc o').drew))
            have HS2 := hide (fun o o' : Obj => (HSTV.out.more ((((Below.refl _ _).alloc (Nat.le_refl _) o).alloc (by simp) o').drew) : TSt W b T2 ((V.alloc o).alloc o').drew))
            have HS1 := hide (fun o : Obj => (HSTV.out.more (((Below.refl _ _).alloc (Nat.le_refl _) o).drew) : TSt W b T2 (V.alloc o).drew))
            have HAN := hide (own_lit (x := ((V.alloc (.cells #[.string ⟨#[115, 101, 116]⟩, .string qn] 9 (0, 0))).alloc (.cells #[.int .i64 qd, .int .i64 ql, .int .i64 qh, .int .i64 qe, .int .i64 qp, .int .i64 qr, .int .i64 qu, .int .i64 qm, .int .i64 qb] 3 (0, 0))).drew) (g := V.heap.size + 1) (base := W.heap.size) (e := 3) [.int .i64 qd, .int .i64 ql, .int .i64 qh, .int .i64 qe, .int .i64 qp, .int .i64 qr, .int .i64 qu, .int .i64 qm, .int .i64 qb] (by have h := heap_alloc_new (V.alloc (.cells #[.string ⟨#[115, 101, 116]⟩, .string qn] 9 (0, 0))) (.cells #[.int .i64 qd, .int .i64 ql, .int .i64 qh, .int .i64 qe, .int .i64 qp, .int .i64 qr, .int .i64 qu, .int .i64 qm, .int .i64 qb] 3 (0, 0)); rw [show (V.alloc (.cells #[.string ⟨#[115, 101, 116]⟩, .string qn] 9 (0, 0))).heap.size = V.heap.size + 1 by simp] at h; exact h) (by omega) (by simp))
            have HNA := hide (own_lit (x := ((V.alloc (.cells #[.int .i64 qd, .int .i64 ql, .int .i64 qh, .int .i64 qe, .int .i64 qp, .int .i64 qr, .int .i64 qu, .int .i64 qm, .int .i64 qb] 3 (0, 0))).alloc (.cells #[.string ⟨#[115, 101, 116]⟩, .string qn] 9 (0, 0))).drew) (g := V.heap.size) (base := W.heap.size) (e := 3) [.int .i64 qd, .int .i64 ql, .int .i64 qh, .int .i64 qe, .int .i64 qp, .int .i64 qr, .int .i64 qu, .int .i64 qm, .int .i64 qb] ((heap_alloc_old (V.alloc (.cells #[.int .i64 qd, .int .i64 ql, .int .i64 qh, .int .i64 qe, .int .i64 qp, .int .i64 qr, .int .i64 qu, .int .i64 qm, .int .i64 qb] 3 (0, 0))) (.cells #[.string ⟨#[115, 101, 116]⟩, .string qn] 9 (0, 0)) (by simp)).trans (heap_alloc_new V (.cells #[.int .i64 qd, .int .i64 ql, .int .i64 qh, .int .i64 qe, .int .i64 qp, .int .i64 qr, .int .i64 qu, .int .i64 qm, .int .i64 qb] 3 (0, 0)))) (by omega) (by simp))
            have HN1 := hide (own_lit (x := (V.alloc (.cells #[.int .i64 qd, .int .i64 ql, .int .i64 qh, .int .i64 qe, .int .i64 qp, .int .i64 qr, .int .i64 qu, .int .i64 qm, .int .i64 qb] 3 (0, 0))).drew) (g := V.heap.size) (base := W.heap.size) (e := 3) [.int .i64 qd, .int .i64 ql, .int .i64 qh, .int .i64 qe, .int .i64 qp, .int .i64 qr, .int .i64 qu, .int .i64 qm, .int .i64 qb] (heap_alloc_new V (.cells #[.int .i64 qd, .int .i64 ql, .int .i64 qh, .int .i64 qe, .int .i64 qp, .int .i64 qr, .int .i64 qu, .int .i64 qm, .int .i64 qb] 3 (0, 0))) (by omega) (by simp))
            have HWAN := hide (own_lit (x := ((V.alloc (.cells #[.string ⟨#[115, 101, 116]⟩, .string qn] 9 (0, 0))).alloc (.cells #[.int .i64 qd, .int .i64 ql, .int .i64 qh, .int .i64 qe, .int .i64 qp, .int .i64 qr, .int .i64 qu, .int .i64 qm, .int .i64 qb] 3 (0, 0))).drew) (g := V.heap.size) (base := W.heap.size) (e := 9) [.string ⟨#[115, 101, 116]⟩, .string qn] ((heap_alloc_old (V.alloc (.cells #[.string ⟨#[115, 101, 116]⟩, .string qn] 9 (0, 0))) (.cells #[.int .i64 qd, .int .i64 ql, .int .i64 qh, .int .i64 qe, .int .i64 qp, .int .i64 qr, .int .i64 qu, .int .i64 qm, .int .i64 qb] 3 (0, 0)) (by simp)).trans (heap_alloc_new V (.cells #[.string ⟨#[115, 101, 116]⟩, .string qn] 9 (0, 0)))) (by omega) (by simp))
            have HWNA := hide (own_lit (x := ((V.alloc (.cells #[.int .i64 qd, .int .i64 ql, .int .i64 qh, .int .i64 qe, .int .i64 qp, .int .i64 qr, .int .i64 qu, .int .i64 qm, .int .i64 qb] 3 (0, 0))).alloc (.cells #[.string ⟨#[115, 101, 116]⟩, .string qn] 9 (0, 0))).drew) (g := V.heap.size + 1) (base := W.heap.size) (e := 9) [.string ⟨#[115, 101, 116]⟩, .string qn] (by have h := heap_alloc_new (V.alloc (.cells #[.int .i64 qd, .int .i64 ql, .int .i64 qh, .int .i64 qe, .int .i64 qp, .int .i64 qr, .int .i64 qu, .int .i64 qm, .int .i64 qb] 3 (0, 0))) (.cells #[.string ⟨#[115, 101, 116]⟩, .string qn] 9 (0, 0)); rw [show (V.alloc (.cells #[.int .i64 qd, .int .i64 ql, .int .i64 qh, .int .i64 qe, .int .i64 qp, .int .i64 qr, .int .i64 qu, .int .i64 qm, .int .i64 qb] 3 (0, 0))).heap.size = V.heap.size + 1 by simp] at h; exact h) (by omega) (by simp))
            have hps := HPS.out
            rw [setLns, List.cons_append, List.append_assoc] at hps
            obtain ⟨hp1, hp2⟩ := Pend.line (a := setLn (SetD.pl ⟨qn, qd, ql, qh, qe, ⟨some ⟨lb, lo, none⟩, qc, qll⟩, qp, qr, qu, qm, qb, ⟨iA, ic, il⟩, ⟨bA, bc, bl⟩⟩)) hps HDT.out
            have KL := hide (fun (x : World) (v : Value) (A : Option Addr) (cap : Nat) (st : TSt W b T2 x) (hw : x.ownsRow W.heap.size 9 1 v 2 [.string ⟨#[115, 101, 116]⟩, .string qn]) (hn : x.ownsRow W.heap.size 3 1 (.slice A (9 + qll.length) cap) (9 + qll.length) ([.int .i64 qd, .int .i64 ql, .int .i64 qh, .int .i64 qe, .int .i64 qp, .int .i64 qr, .int .i64 qu, .int .i64 qm, .int .i64 qb] ++ qll.map (Value.int .i64))) => (show Calls Tryz.prog 50 #[.pointer (some ⟨b, 0, none⟩), v, .slice A (9 + qll.length) cap] x (LinePost W b T2 (setLn (SetD.pl ⟨qn, qd, ql, qh, qe, ⟨some ⟨lb, lo, none⟩, qc, qll⟩, qp, qr, qu, qm, qb, ⟨iA, ic, il⟩, ⟨bA, bc, bl⟩⟩)) x) by
              have hlen : 9 + qll.length = ([qd, ql, qh, qe, qp, qr, qu, qm, qb] ++ qll).length := by simp; omega
              have h := rows_line (base2 := W.heap.size) (A := A) (cap := cap) st HT.out [⟨#[115, 101, 116]⟩, qn] ([qd, ql, qh, qe, qp, qr, qu, qm, qb] ++ qll) hw (Nat.le_refl _) st.bel.size (by simp) (by simp) (by rw [← hlen]; exact hn) (fun n hn => by
                simp only [List.mem_append, List.mem_cons, List.not_mem_nil, or_false] at hn
                rcases hn with (rfl | rfl | rfl | rfl | rfl | rfl | rfl | rfl | rfl) | hn
                · exact HQO.out.depth
                · exact HQO.out.low
                · exact HQO.out.high
                · exact HQO.out.length
                · exact HQO.out.pipe
                · exact HQO.out.arbor
                · exact HQO.out.purchase
                · exact HQO.out.most
                · exact HQO.out.brake
                · exact HQO.out.lines n hn) (by rw [← hlen]; omega) (by
                have e := set_words (SetD.pl ⟨qn, qd, ql, qh, qe, ⟨some ⟨lb, lo, none⟩, qc, qll⟩, qp, qr, qu, qm, qb, ⟨iA, ic, il⟩, ⟨bA, bc, bl⟩⟩)
                simp only [SetD.pl] at e hp1 ⊢
                rw [e]
                simp only [List.length_append] at hp1 ⊢
                omega)
              rw [← hlen] at h
              have e := set_words (SetD.pl ⟨qn, qd, ql, qh, qe, ⟨some ⟨lb, lo, none⟩, qc, qll⟩, qp, qr, qu, qm, qb, ⟨iA, ic, il⟩, ⟨bA, bc, bl⟩⟩)
              simp only [SetD.pl] at e h ⊢
              rw [e] at h
              exact h))
            have HP2 := hide (show Pend (T2 ++ lineT (setLn (SetD.pl ⟨qn, qd, ql, qh, qe, ⟨some ⟨lb, lo, none⟩, qc, qll⟩, qp, qr, qu, qm, qb, ⟨iA, ic, il⟩, ⟨bA, bc, bl⟩⟩))) (il.map itemLn ++ (bl.map brickLn ++ ls2)) TT by rw [HLS2.out]; have h := hp2; simp only [SetD.pl] at h ⊢; exact h)
            clear hps hp1 hp2 hi0 hz0 hs0 hb0
            go_region_held3 (fun w' => w'.cell? ⟨gs, 0, none⟩ = some (.string qn) ∧ w'.cell? ⟨gs, 0 + 1, none⟩ = some (.int .i64 qd) ∧ w'.cell? ⟨gs, 0 + 2, none⟩ = some (.int .i64 ql) ∧ w'.cell? ⟨gs, 0 + 3, none⟩ = some (.int .i64 qh) ∧ w'.cell? ⟨gs, 0 + 4, none⟩ = some (.int .i64 qe) ∧ w'.cell? ⟨gs, 0 + 5, none⟩ = some (.slice (some ⟨lb, lo, none⟩) qll.length qc) ∧ w'.cell? ⟨gs, 0 + 6, none⟩ = some (.int .i64 qp) ∧ w'.cell? ⟨gs, 0 + 7, none⟩ = some (.int .i64 qr) ∧ w'.cell? ⟨gs, 0 + 8, none⟩ = some (.int .i64 qu) ∧ w'.cell? ⟨gs, 0 + 9, none⟩ = some (.int .i64 qm) ∧ w'.cell? ⟨gs, 0 + 10, none⟩ = some (.int .i64 qb) ∧ w'.cell? ⟨gs, 0 + 11, none⟩ = some (.slice iA il.length ic) ∧ w'.cell? ⟨gs, 0 + 12, none⟩ = some (.slice bA bl.length bc))
              (first | exact hcS _ HVH.out | exact hcS _ (HK1.out _) | exact hcS _ (HK2.out _ _) | exact hcS _ hgs7 | exact hcS _ hgs6' | exact hcS _ hgs6)
              (first
                | (refine step_append_lies _ (by rfl) (.tmp 84) (.tmp 86) 22 (by rfl) W.heap.size 3 i0 (.int .i64 0) 1 8 Tryz.underlying22 HI0.out.1 HI0.out.2.1 HI0.out.2.2.1 HI0.out.2.2.2 rfl (by omega) (.slice (some ⟨V.heap.size + 1, 0, none⟩) 9 9) 9 [.int .i64 qd, .int .i64 ql, .int .i64 qh, .int .i64 qe, .int .i64 qp, .int .i64 qr, .int .i64 qu, .int .i64 qm, .int .i64 qb] (by rfl) HAN.out ⟨lb, lo, none⟩ qll.length qc (qll.map (Value.int .i64)) (by rfl) (by simp) (HSL.out _ (HB2.out _ _)) (fun u hu => by obtain ⟨q, _, rfl⟩ := List.mem_map.1 hu; rfl) (by omega) (by unfold maxLen; omega) (by omega) (by simp; omega) _ rfl ?_; intro g6 cap6 w6 hown6 hgr6 hg6 hlt6; obtain ⟨hst6, hwd6⟩ := set_ready (HS2.out _ _) HWAN.out HAN.out hgr6; have hgs6 := ints_grow HAN.out hgr6 gs _ _ _ (by decide) (HK2.out _ _))
                | (refine step_append_lies _ (by rfl) (.tmp 84) (.tmp 86) 22 (by rfl) W.heap.size 3 i0 (.int .i64 0) 1 8 Tryz.underlying22 HI0.out.1 HI0.out.2.1 HI0.out.2.2.1 HI0.out.2.2.2 rfl (by omega) (.slice (some ⟨V.heap.size, 0, none⟩) 9 9) 9 [.int .i64 qd, .int .i64 ql, .int .i64 qh, .int .i64 qe, .int .i64 qp, .int .i64 qr, .int .i64 qu, .int .i64 qm, .int .i64 qb] (by rfl) HNA.out ⟨lb, lo, none⟩ qll.length qc (qll.map (Value.int .i64)) (by rfl) (by simp) (HSL.out _ (HB2.out _ _)) (fun u hu => by obtain ⟨q, _, rfl⟩ := List.mem_map.1 hu; rfl) (by omega) (by unfold maxLen; omega) (by omega) (by simp; omega) _ rfl ?_; intro g6 cap6 w6 hown6 hgr6 hg6 hlt6; obtain ⟨hst6, hwd6⟩ := set_ready (HS2.out _ _) HWNA.out HNA.out hgr6; have hgs6 := ints_grow HNA.out hgr6 gs _ _ _ (by decide) (HK2.out _ _))
                | (refine step_append_lies _ (by rfl) (.tmp 84) (.tmp 86) 22 (by rfl) W.heap.size 3 i0 (.int .i64 0) 1 8 Tryz.underlying22 HI0.out.1 HI0.out.2.1 HI0.out.2.2.1 HI0.out.2.2.2 rfl (by omega) (.slice (some ⟨V.heap.size, 0, none⟩) 9 9) 9 [.int .i64 qd, .int .i64 ql, .int .i64 qh, .int .i64 qe, .int .i64 qp, .int .i64 qr, .int .i64 qu, .int .i64 qm, .int .i64 qb] (by rfl) HN1.out ⟨lb, lo, none⟩ qll.length qc (qll.map (Value.int .i64)) (by rfl) (by simp) (HSL.out _ (HB1.out _)) (fun u hu => by obtain ⟨q, _, rfl⟩ := List.mem_map.1 hu; rfl) (by omega) (by unfold maxLen; omega) (by omega) (by simp; omega) _ rfl ?_; intro g6 cap6 w6 hown6 hgr6 hg6 hlt6; have hst6 := (HS1.out _).growI HN1.out (Nat.le_refl _) hgr6; have hgs6 := ints_grow HN1.out hgr6 gs _ _ _ (by decide) (HK1.out _); have hst6' := hst6.more ((Below.refl _ _).alloc (Nat.le_refl _) (.cells #[.string ⟨#[115, 101, 116]⟩, .string qn] 9 (0, 0))); have hwd6' := own_lit (base := W.heap.size) (e := 9) [.string ⟨#[115, 101, 116]⟩, .string qn] (heap_alloc_new w6 (.cells #[.string ⟨#[115, 101, 116]⟩, .string qn] 9 (0, 0))) hst6.bel.size (by simp); have hown6' := hown6.alloc (.cells #[.string ⟨#[115, 101, 116]⟩, .string qn] 9 (0, 0)); have hgs6' := (heap_alloc_old w6 (.cells #[.string ⟨#[115, 101, 116]⟩, .string qn] 9 (0, 0)) (Array.getElem?_eq_some_iff.1 hgs6).1).trans hgs6)
                | (go_at_call 50; refine (KL.out _ _ _ _ hst6 hwd6 hown6).mono ?_; rintro e w7 ⟨rfl, hst7, hk7⟩; have hgs7 := hk7 gs _ _ _ (by decide) (by decide) (by decide) hgs6)
                | (go_at_call 50; refine (KL.out _ _ _ _ hst6' hwd6' hown6').mono ?_; rintro e w7 ⟨rfl, hst7, hk7⟩; have hgs7 := hk7 gs _ _ _ (by decide) (by decide) (by decide) hgs6'))
            all_goals
              go_wp2_with fail
              go_meet
              exact ⟨_, hide hst7, HP2, hgs7⟩
          case rest =>
            obtain ⟨T3, hst3, hpe3, hgs3⟩ := hcut
            have hcs := SetD.boxed (s := ⟨qn, qd, ql, qh, qe, ⟨qA, qc, qll⟩, qp, qr, qu, qm, qb, ⟨iA, ic, il⟩, ⟨bA, bc, bl⟩⟩) (B := wc.heap.size) hgs3 (Array.getElem?_eq_some_iff.1 hgs3).1 (After.refl _ _)
            simp only [After.refl] at hcs
            have HG3 := hide hgs3
            clear hgs3
            go_wp2_with fail
            go_loopw [12, 92] (fun _ v wx => ∃ (j : Nat) (T : List UInt8), v = .int .i64 j ∧ j ≤ il.length ∧ Hid (TSt W b T wx) ∧ Hid (Pend T ((il.drop j).map itemLn ++ (bl.map brickLn ++ ls2)) TT) ∧ Hid (wx.heap[gs]? = some (.cells #[.string qn, .int .i64 qd, .int .i64 ql, .int .i64 qh, .int .i64 qe, .slice qA qll.length qc, .int .i64 qp, .int .i64 qr, .int .i64 qu, .int .i64 qm, .int .i64 qb, .slice iA il.length ic, .slice bA bl.length bc] 26 (0, 0)))) (fun _ v _ => il.length - (intOf v).toNat)
            case atStart => exact ⟨0, _, rfl, Nat.zero_le _, hst3, hpe3, HG3⟩
            case round =>
              obtain ⟨j, T4, rfl, hj, hst4, hpe4, hg4⟩ := hrel
              by_cases hjl : j < il.length
              · obtain ⟨xb, xo, hA, hxb, hcell⟩ := HQA.out.items.2.2 (show 0 < il.length by omega)
                simp only at hA
                subst hA
                obtain ⟨i, hi⟩ : ∃ i, il[j]? = some i := ⟨il[j], List.getElem?_eq_getElem hjl⟩
                have he4 := ItemD.elem hi hxb hcell ⟨wr, hst4.out.bel⟩
                simp only at he4
                have hio := HQO.out.items i (List.mem_of_getElem? hi)
                obtain ⟨U, hU, hUs, hUb, hUh⟩ := boxed wr (.cells #[.string i.name, .int .i64 i.place, .int .i64 i.width, .int .i64 i.weight, .int .i64 i.hang, .int .i64 i.front, .int .i64 i.back] 63)
                have hcU := ItemD.boxed (B := U.heap.size) hUh (by omega) (After.refl _ _)
                have hcU2 := fun o : Obj => ItemD.boxed (B := U.heap.size) hUh (by omega) ⟨U.alloc o, (Below.refl _ _).alloc (Nat.le_refl _) o⟩
                simp only [After.refl] at hcU hcU2
                have hp4 := hpe4.out
                rw [drop_map itemLn hi] at hp4
                obtain ⟨hp5, hp6⟩ := hp4.line HDT.out
                have KL := hide (lineItem_any (i := i) (hst4.out.more hUb) HT.out hio.place hio.width hio.weight hio.hang hio.front hio.back hD hp5)
                have HP6 := hide hp6
                have HU := hide hU
                have HUB := hide (KeepL.below hUb)
                clear hcell hi hU hUs hUb hUh hp4 hp5 hp6 hio
                go_upto_region 17 with fail
                rw [← HU.out]
                go_wp2_with fail
                refine KL.out.mono ?_
                rintro e w5 ⟨rfl, hst5, hk5⟩
                have HS5 := hide hst5
                have HG5 := hide ((HUB.out.trans hk5) gs _ _ _ (by decide) (by decide) (by decide) hg4.out)
                clear hst5 hk5 KL
                go_wp2_with fail
                exact ⟨⟨j + 1, _, by go_num, by omega, HS5, HP6, HG5⟩, by simp [intOf]; omega⟩
              · have hp4 := hpe4.out
                rw [show il.drop j = [] from List.drop_eq_nil_of_le (by omega), List.map_nil, List.nil_append] at hp4
                have HP4 := hide hp4
                have hcs4 := SetD.boxed (s := ⟨qn, qd, ql, qh, qe, ⟨qA, qc, qll⟩, qp, qr, qu, qm, qb, ⟨iA, ic, il⟩, ⟨bA, bc, bl⟩⟩) (B := wr.heap.size) hg4.out (Array.getElem?_eq_some_iff.1 hg4.out).1 (After.refl _ _)
                simp only [After.refl] at hcs4
                clear hp4 hpe4
                go_wp2_with fail
                go_loopw [14, 117] (fun _ v wx => ∃ (j : Nat) (T : List UInt8), v = .int .i64 j ∧ j ≤ bl.length ∧ Hid (TSt W b T wx) ∧ Hid (Pend T ((bl.drop j).map brickLn ++ ls2) TT)) (fun _ v _ => bl.length - (intOf v).toNat)
                case atStart => exact ⟨0, _, rfl, Nat.zero_le _, hst4, HP4⟩
                case round =>
                  obtain ⟨j2, T6, rfl, hj2, hst6, hpe6⟩ := hrel
                  by_cases hjl2 : j2 < bl.length
                  · obtain ⟨xb, xo, hA, hxb, hcell⟩ := HQA.out.bricks.2.2 (show 0 < bl.length by omega)
                    simp only at hA
                    subst hA
                    obtain ⟨i, hi⟩ : ∃ i, bl[j2]? = some i := ⟨bl[j2], List.getElem?_eq_getElem hjl2⟩
                    have he4 := BrickD.elem hi hxb hcell ⟨wr, hst6.out.bel⟩
                    simp only at he4
                    have hio := HQO.out.bricks i (List.mem_of_getElem? hi)
                    obtain ⟨U, hU, hUs, hUb, hUh⟩ := boxed wr (.cells #[.string i.name, .int .i64 i.weight, .int .i64 i.count] 65)
                    have hcU := BrickD.boxed (B := U.heap.size) hUh (by omega) (After.refl _ _)
                    have hcU2 := fun o : Obj => BrickD.boxed (B := U.heap.size) hUh (by omega) ⟨U.alloc o, (Below.refl _ _).alloc (Nat.le_refl _) o⟩
                    simp only [After.refl] at hcU hcU2
                    have hp4 := hpe6.out
                    rw [drop_map brickLn hi] at hp4
                    obtain ⟨hp5, hp6⟩ := hp4.line HDT.out
                    have KL := hide (lineBrick_any (i := i) (hst6.out.more hUb) HT.out hio.weight hio.count hD hp5)
                    have HP6 := hide hp6
                    have HU := hide hU
                    clear hcell hi hU hUs hUb hUh hp4 hp5 hp6 hio
                    go_upto_region 22 with fail
                    rw [← HU.out]
                    go_wp2_with fail
                    refine KL.out.mono ?_
                    rintro e w7 ⟨rfl, hst7, -⟩
                    have HS7 := hide hst7
                    clear hst7 KL
                    go_wp2_with fail
                    exact ⟨⟨j2 + 1, _, by go_num, by omega, HS7, HP6⟩, by simp [intOf]; omega⟩
                  · have hp6 := hpe6.out
                    rw [show bl.drop j2 = [] from List.drop_eq_nil_of_le (by omega), List.map_nil, List.nil_append, HLS2.out] at hp6
                    have HP7 := hide hp6
                    clear hp6
                    go_wp2_with fail
                    exact ⟨⟨k2 + 1, _, by go_num, by omega, hst6, HP7⟩, by simp [intOf]; omega⟩
        · have hp := hpe2.out
          rw [show (sl.map SetD.pl).drop k2 = [] from List.drop_eq_nil_of_le (by simp; omega), List.flatMap_nil, List.nil_append] at hp
          have HP2 := hide hp
          clear hp hpe2
          go_wp2_with fail
          go_loopw [16, 17, 135] (fun _ _ v wr => ∃ (k : Nat) (T : List UInt8), v = .int .i64 k ∧ k ≤ cl.length ∧ Hid (TSt W b T wr) ∧ Hid (Pend T (((cl.map CueD.pl).drop k).flatMap cueLns ++ pl.map apartLn) TT)) (fun _ _ v _ => cl.length - (intOf v).toNat)
          case atStart => exact ⟨0, _, rfl, Nat.zero_le _, hst2, HP2⟩
          case round =>
            obtain ⟨k3, T3, rfl, hk3, hst3, hpe3⟩ := hrel
            have hcw3 := hc ⟨wr, hst3.out.bel⟩
            simp only at hcw3
            by_cases hlt3 : k3 < cl.length
            · obtain ⟨xb0, xo0, hA, hxb, hcell⟩ := SAT.out.cues.2.2 (show 0 < cl.length by omega)
              simp only at hA
              subst hA
              obtain ⟨⟨cn, ca, ck, cd, ⟨mA, mc, ml⟩, cr, cp⟩, hq⟩ : ∃ q, cl[k3]? = some q := ⟨cl[k3], List.getElem?_eq_getElem hlt3⟩
              have hmem := List.mem_of_getElem? hq
              have he := CueD.elem hq hxb hcell ⟨wr, hst3.out.bel⟩
              simp only at he
              have hqo := SOK.out.cues _ hmem
              have hqa := SAT.out.each _ hmem
              have hqm : (cl.map CueD.pl)[k3]? = some ⟨cn, ca, ck, cd, ml, cr, cp⟩ := by simp [hq, CueD.pl]
              obtain ⟨V, hV, hVs, hVb, hVh⟩ := boxed wr (.cells #[.string cn, .string ca, .int .i64 ck, .int .i64 cd, .slice mA ml.length mc, .int .i64 cr, .int .i64 cp] 97)
              obtain ⟨ls3, hls3⟩ : ∃ ls, ls = ((cl.map CueD.pl).drop (k3 + 1)).flatMap cueLns ++ pl.map apartLn := ⟨_, rfl⟩
              have hp := hpe3.out
              rw [drop_flat cueLns hqm, ← hls3] at hp
              have hp' : Pend T3 (cueLn ⟨cn, ca, ck, cd, ml, cr, cp⟩ :: (ml.map moveLn ++ ls3)) TT := hp
              obtain ⟨hp5, hp6⟩ := hp'.line HDT.out
              have hi1 : mc ≤ 9223372036854775807 := hqa.moves.2.1
              have hi2 : ml.length ≤ mc := hqa.moves.1
              obtain ⟨X2, hX2, hX2s, hX2b, hX2h⟩ := boxed V (.cells #[.string ⟨#[99, 117, 101]⟩, .string cn] 9)
              obtain ⟨gs, hgs⟩ : ∃ g, g = wr.heap.size := ⟨_, rfl⟩
              have hVg : V.heap[gs]? = some (.cells #[.string cn, .string ca, .int .i64 ck, .int .i64 cd, .slice mA ml.length mc, .int .i64 cr, .int .i64 cp] 97 (0, 0)) := by rw [hgs]; exact hVh
              have hXg : X2.heap[gs]? = some (.cells #[.string cn, .string ca, .int .i64 ck, .int .i64 cd, .slice mA ml.length mc, .int .i64 cr, .int .i64 cp] 97 (0, 0)) := (hX2b.block gs (by omega)).trans hVg
              have hcV := CueD.boxed (q := ⟨cn, ca, ck, cd, ⟨mA, mc, ml⟩, cr, cp⟩) (B := V.heap.size) hVg (by omega) (After.refl _ _)
              have hcX := CueD.boxed (q := ⟨cn, ca, ck, cd, ⟨mA, mc, ml⟩, cr, cp⟩) (B := X2.heap.size) hXg (by omega) (After.refl _ _)
              have hcXa := fun o : Obj => CueD.boxed (q := ⟨cn, ca, ck, cd, ⟨mA, mc, ml⟩, cr, cp⟩) (B := X2.heap.size) hXg (by omega) ⟨X2.alloc o, (Below.refl _ _).alloc (Nat.le_refl _) o⟩
              simp only [After.refl] at hcV hcX hcXa
              have hst3V := (hst3.out.more hVb).more hX2b
              have hown : X2.ownsRow W.heap.size 9 1 (.slice (some ⟨V.heap.size, 0, none⟩) 2 2) 2 [.string ⟨#[99, 117, 101]⟩, .string cn] := own_lit [.string ⟨#[99, 117, 101]⟩, .string cn] hX2h (hst3.out.more hVb).bel.size (by simp)
              obtain ⟨i8, hi8, hz8, hs8, hb8⟩ := info_parts infoStr
              have HI := hide (And.intro hi8 (And.intro hz8 (And.intro hs8 hb8)))
              have HST3 := hide hst3V
              have HOWN := hide hown
              have HGX := hide hXg
              have HP5 := hide (show (T3 ++ (lineT (cueLn ⟨cn, ca, ck, cd, ml, cr, cp⟩) ++ (ml.map moveLn ++ ls3).flatMap lineT)).length ≤ 140737488355328 by rw [hp5]; exact hD)
              have HP6 := hide hp6
              have HQO := hide hqo
              have HQA := hide hqa
              have HV := hide hV
              have HX2 := hide hX2
              have HGS := hide hgs
              have HLS3 := hide hls3
              clear hcell hq hV hVs hVb hVh hp hp' hp5 hp6 hqo hqa hmem hqm hgs hVg hXg hX2 hX2s hX2b hX2h hst3V hown hi8 hz8 hs8 hb8 hls3
              go_upto_region 28 with fail
              rw [← HV.out, ← HGS.out]
              go_upto_region 29 with fail
              rw [← HX2.out]
              cases h1 : (ck == 1)
              · cases h2 : (ck == 2)
                · have h1' : ¬ ck = 1 := by simpa using h1
                  have h2' : ¬ ck = 2 := by simpa using h2
                  have HLK := hide (show linkB ck ca = [wdWith, ca] by simp [linkB, h1', h2'])
                  go_wp2_with (at_builtin; refine Hid.out ?_)
                  refine Lib.hid ?_
                  refine wpList_append_lies _ rfl _ _ 92 rfl W.heap.size 9 i8 (.string ⟨#[]⟩) 1 16 Tryz.underlying92 HI.out.1 HI.out.2.1 HI.out.2.2.1 HI.out.2.2.2 rfl (by decide) (.slice (some ⟨V.heap.size, 0, none⟩) 2 2) 2 [.string ⟨#[99, 117, 101]⟩, .string cn] rfl (HOWN.out.alloc _) ⟨X2.heap.size, 0, none⟩ 2 2 [.string ⟨#[119, 105, 116, 104]⟩, .string ca] rfl rfl (World.news_of_block (heap_alloc_new X2 _)) (fun u hu => by simp at hu; rcases hu with rfl | rfl <;> rfl) (by omega) (by unfold maxLen; omega) (by omega) (by have := HST3.out.bel.size; simp; omega) (X2.heap.size + 1) (by simp) ?_
                  intro g4 cap4 w4 hown4 hgr4 hg4 _
                  have hxa : Below X2.heap.size X2 (X2.alloc (.cells #[.string ⟨#[119, 105, 116, 104]⟩, .string ca] 9 (0, 0))) := (Below.refl _ _).alloc (Nat.le_refl _) _
                  have hst4 : TSt W b T3 w4 := (HST3.out.more hxa).grow (HOWN.out.alloc _) (Nat.le_refl _) hgr4
                  have hkp4 : KeepL X2 w4 := (KeepL.below hxa).trans (KeepL.grown (HOWN.out.alloc _) hgr4)
                  have hg5 := hkp4 gs _ _ _ (by decide) (by decide) (by decide) HGX.out
                  have hc4 := CueD.boxed (q := ⟨cn, ca, ck, cd, ⟨mA, mc, ml⟩, cr, cp⟩) (B := w4.heap.size) hg5 (Array.getElem?_eq_some_iff.1 hg5).1 (After.refl _ _)
                  simp only [After.refl] at hc4
                  have KL := hide (row_line hst4 HT.out ([(⟨#[99, 117, 101]⟩ : ByteArray), cn] ++ [wdWith, ca]) [cd, cr, cp] hown4 (Nat.le_refl _) (by have := hst4.bel.size; omega) (by simp) (by simp) (by
                    intro n hn; simp only [List.mem_cons, List.not_mem_nil, or_false] at hn
                    rcases hn with rfl | rfl | rfl
                    · exact HQO.out.delay
                    · exact HQO.out.crew
                    · exact HQO.out.power) (by simp) (by
                    have e := cue_words ⟨cn, ca, ck, cd, ml, cr, cp⟩
                    simp only [HLK.out] at e
                    rw [e]
                    have h := HP5.out
                    simp only [List.length_append] at h ⊢
                    omega))
                  rw [← HLK.out] at KL
                  have ecw := cue_words ⟨cn, ca, ck, cd, ml, cr, cp⟩
                  simp only at ecw
                  rw [ecw] at KL
                  have HK4 := hide hkp4
                  clear hst4 hkp4 hg5 hown4 hgr4 hg4 hxa ecw
                  go_wp2_with fail
                  refine KL.out.mono ?_
                  rintro e w5 ⟨rfl, hst5, hk5⟩
                  have HS5 := hide hst5
                  have hg6 := (HK4.out.trans hk5) gs _ _ _ (by decide) (by decide) (by decide) HGX.out
                  have hcs6 := CueD.boxed (q := ⟨cn, ca, ck, cd, ⟨mA, mc, ml⟩, cr, cp⟩) (B := w5.heap.size) hg6 (Array.getElem?_eq_some_iff.1 hg6).1 (After.refl _ _)
                  simp only [After.refl] at hcs6
                  clear hst5 hk5 KL hg6 hc4
                  go_wp2_with fail
                  go_loopw [19, 173] (fun _ v wx => ∃ (j : Nat) (T : List UInt8), v = .int .i64 j ∧ j ≤ ml.length ∧ Hid (TSt W b T wx) ∧ Hid (Pend T ((ml.drop j).map moveLn ++ ls3) TT)) (fun _ v _ => ml.length - (intOf v).toNat)
                  case atStart => exact ⟨0, _, rfl, Nat.zero_le _, HS5, HP6⟩
                  case round =>
                    obtain ⟨j2, T6, rfl, hj2, hst6, hpe6⟩ := hrel
                    by_cases hjl2 : j2 < ml.length
                    · obtain ⟨xb, xo, hA, hxb, hcell⟩ := HQA.out.moves.2.2 (show 0 < ml.length by omega)
                      simp only at hA
                      subst hA
                      obtain ⟨i, hi⟩ : ∃ i, ml[j2]? = some i := ⟨ml[j2], List.getElem?_eq_getElem hjl2⟩
                      have he4 := MoveD.elem hi hxb hcell ⟨wr, hst6.out.bel⟩
                      simp only at he4
                      have hio := HQO.out.moves i (List.mem_of_getElem? hi)
                      obtain ⟨U, hU, hUs, hUb, hUh⟩ := boxed wr (.cells #[.string i.set, .int .i64 i.to, .int .i64 i.speed, .int .i64 i.rise, .int .i64 i.fall] 99)
                      have hcU := MoveD.boxed (B := U.heap.size) hUh (by omega) (After.refl _ _)
                      have hcU2 := fun o : Obj => MoveD.boxed (B := U.heap.size) hUh (by omega) ⟨U.alloc o, (Below.refl _ _).alloc (Nat.le_refl _) o⟩
                      simp only [After.refl] at hcU hcU2
                      have hp4 := hpe6.out
                      rw [drop_map moveLn hi] at hp4
                      obtain ⟨hp5, hp6⟩ := hp4.line HDT.out
                      have KL := hide (lineMove_any (m := i) (hst6.out.more hUb) HT.out hio.til hio.speed hio.rise hio.fall hD hp5)
                      have HP8 := hide hp6
                      have HU := hide hU
                      clear hcell hi hU hUs hUb hUh hp4 hp5 hp6 hio
                      go_upto_region 39 with fail
                      rw [← HU.out]
                      go_wp2_with fail
                      refine KL.out.mono ?_
                      rintro e w7 ⟨rfl, hst7, -⟩
                      have HS7 := hide hst7
                      clear hst7 KL
                      go_wp2_with fail
                      exact ⟨⟨j2 + 1, _, by go_num, by omega, HS7, HP8⟩, by simp [intOf]; omega⟩
                    · have hp6 := hpe6.out
                      rw [show ml.drop j2 = [] from List.drop_eq_nil_of_le (by omega), List.map_nil, List.nil_append, HLS3.out] at hp6
                      have HP7 := hide hp6
                      clear hp6
                      go_wp2_with fail
                      exact ⟨⟨k3 + 1, _, by go_num, by omega, hst6, HP7⟩, by simp [intOf]; omega⟩
                · have h1' : ¬ ck = 1 := by simpa using h1
                  have h2' : ck = 2 := by simpa using h2
                  have HLK := hide (show linkB ck ca = [wdFollow, ca] by simp [linkB, h2'])
                  go_wp2_with (at_builtin; refine Hid.out ?_)
                  refine Lib.hid ?_
                  refine wpList_append_lies _ rfl _ _ 92 rfl W.heap.size 9 i8 (.string ⟨#[]⟩) 1 16 Tryz.underlying92 HI.out.1 HI.out.2.1 HI.out.2.2.1 HI.out.2.2.2 rfl (by decide) (.slice (some ⟨V.heap.size, 0, none⟩) 2 2) 2 [.string ⟨#[99, 117, 101]⟩, .string cn] rfl (HOWN.out.alloc _) ⟨X2.heap.size, 0, none⟩ 2 2 [.string ⟨#[102, 111, 108, 108, 111, 119]⟩, .string ca] rfl rfl (World.news_of_block (heap_alloc_new X2 _)) (fun u hu => by simp at hu; rcases hu with rfl | rfl <;> rfl) (by omega) (by unfold maxLen; omega) (by omega) (by have := HST3.out.bel.size; simp; omega) (X2.heap.size + 1) (by simp) ?_
                  intro g4 cap4 w4 hown4 hgr4 hg4 _
                  have hxa : Below X2.heap.size X2 (X2.alloc (.cells #[.string ⟨#[102, 111, 108, 108, 111, 119]⟩, .string ca] 9 (0, 0))) := (Below.refl _ _).alloc (Nat.le_refl _) _
                  have hst4 : TSt W b T3 w4 := (HST3.out.more hxa).grow (HOWN.out.alloc _) (Nat.le_refl _) hgr4
                  have hkp4 : KeepL X2 w4 := (KeepL.below hxa).trans (KeepL.grown (HOWN.out.alloc _) hgr4)
                  have hg5 := hkp4 gs _ _ _ (by decide) (by decide) (by decide) HGX.out
                  have hc4 := CueD.boxed (q := ⟨cn, ca, ck, cd, ⟨mA, mc, ml⟩, cr, cp⟩) (B := w4.heap.size) hg5 (Array.getElem?_eq_some_iff.1 hg5).1 (After.refl _ _)
                  simp only [After.refl] at hc4
                  have KL := hide (row_line hst4 HT.out ([(⟨#[99, 117, 101]⟩ : ByteArray), cn] ++ [wdFollow, ca]) [cd, cr, cp] hown4 (Nat.le_refl _) (by have := hst4.bel.size; omega) (by simp) (by simp) (by
                    intro n hn; simp only [List.mem_cons, List.not_mem_nil, or_false] at hn
                    rcases hn with rfl | rfl | rfl
                    · exact HQO.out.delay
                    · exact HQO.out.crew
                    · exact HQO.out.power) (by simp) (by
                    have e := cue_words ⟨cn, ca, ck, cd, ml, cr, cp⟩
                    simp only [HLK.out] at e
                    rw [e]
                    have h := HP5.out
                    simp only [List.length_append] at h ⊢
                    omega))
                  rw [← HLK.out] at KL
                  have ecw := cue_words ⟨cn, ca, ck, cd, ml, cr, cp⟩
                  simp only at ecw
                  rw [ecw] at KL
                  have HK4 := hide hkp4
                  clear hst4 hkp4 hg5 hown4 hgr4 hg4 hxa ecw
                  go_wp2_with fail
                  refine KL.out.mono ?_
                  rintro e w5 ⟨rfl, hst5, hk5⟩
                  have HS5 := hide hst5
                  have hg6 := (HK4.out.trans hk5) gs _ _ _ (by decide) (by decide) (by decide) HGX.out
                  have hcs6 := CueD.boxed (q := ⟨cn, ca, ck, cd, ⟨mA, mc, ml⟩, cr, cp⟩) (B := w5.heap.size) hg6 (Array.getElem?_eq_some_iff.1 hg6).1 (After.refl _ _)
                  simp only [After.refl] at hcs6
                  clear hst5 hk5 KL hg6 hc4
                  go_wp2_with fail
                  go_loopw [19, 173] (fun _ v wx => ∃ (j : Nat) (T : List UInt8), v = .int .i64 j ∧ j ≤ ml.length ∧ Hid (TSt W b T wx) ∧ Hid (Pend T ((ml.drop j).map moveLn ++ ls3) TT)) (fun _ v _ => ml.length - (intOf v).toNat)
                  case atStart => exact ⟨0, _, rfl, Nat.zero_le _, HS5, HP6⟩
                  case round =>
                    obtain ⟨j2, T6, rfl, hj2, hst6, hpe6⟩ := hrel
                    by_cases hjl2 : j2 < ml.length
                    · obtain ⟨xb, xo, hA, hxb, hcell⟩ := HQA.out.moves.2.2 (show 0 < ml.length by omega)
                      simp only at hA
                      subst hA
                      obtain ⟨i, hi⟩ : ∃ i, ml[j2]? = some i := ⟨ml[j2], List.getElem?_eq_getElem hjl2⟩
                      have he4 := MoveD.elem hi hxb hcell ⟨wr, hst6.out.bel⟩
                      simp only at he4
                      have hio := HQO.out.moves i (List.mem_of_getElem? hi)
                      obtain ⟨U, hU, hUs, hUb, hUh⟩ := boxed wr (.cells #[.string i.set, .int .i64 i.to, .int .i64 i.speed, .int .i64 i.rise, .int .i64 i.fall] 99)
                      have hcU := MoveD.boxed (B := U.heap.size) hUh (by omega) (After.refl _ _)
                      have hcU2 := fun o : Obj => MoveD.boxed (B := U.heap.size) hUh (by omega) ⟨U.alloc o, (Below.refl _ _).alloc (Nat.le_refl _) o⟩
                      simp only [After.refl] at hcU hcU2
                      have hp4 := hpe6.out
                      rw [drop_map moveLn hi] at hp4
                      obtain ⟨hp5, hp6⟩ := hp4.line HDT.out
                      have KL := hide (lineMove_any (m := i) (hst6.out.more hUb) HT.out hio.til hio.speed hio.rise hio.fall hD hp5)
                      have HP8 := hide hp6
                      have HU := hide hU
                      clear hcell hi hU hUs hUb hUh hp4 hp5 hp6 hio
                      go_upto_region 39 with fail
                      rw [← HU.out]
                      go_wp2_with fail
                      refine KL.out.mono ?_
                      rintro e w7 ⟨rfl, hst7, -⟩
                      have HS7 := hide hst7
                      clear hst7 KL
                      go_wp2_with fail
                      exact ⟨⟨j2 + 1, _, by go_num, by omega, HS7, HP8⟩, by simp [intOf]; omega⟩
                    · have hp6 := hpe6.out
                      rw [show ml.drop j2 = [] from List.drop_eq_nil_of_le (by omega), List.map_nil, List.nil_append, HLS3.out] at hp6
                      have HP7 := hide hp6
                      clear hp6
                      go_wp2_with fail
                      exact ⟨⟨k3 + 1, _, by go_num, by omega, hst6, HP7⟩, by simp [intOf]; omega⟩
              · have h1' : ck = 1 := by simpa using h1
                have HLK := hide (show linkB ck ca = [wdManual] by simp [linkB, h1'])
                go_wp2_with (at_builtin; refine Hid.out ?_)
                refine Lib.hid ?_
                refine wpList_append_lies _ rfl _ _ 92 rfl W.heap.size 9 i8 (.string ⟨#[]⟩) 1 16 Tryz.underlying92 HI.out.1 HI.out.2.1 HI.out.2.2.1 HI.out.2.2.2 rfl (by decide) (.slice (some ⟨V.heap.size, 0, none⟩) 2 2) 2 [.string ⟨#[99, 117, 101]⟩, .string cn] rfl (HOWN.out.alloc _) ⟨X2.heap.size, 0, none⟩ 1 1 [.string ⟨#[109, 97, 110, 117, 97, 108]⟩] rfl rfl (World.news_of_block (heap_alloc_new X2 _)) (fun u hu => by simp at hu; rcases hu with rfl <;> rfl) (by omega) (by unfold maxLen; omega) (by omega) (by have := HST3.out.bel.size; simp; omega) (X2.heap.size + 1) (by simp) ?_
                intro g4 cap4 w4 hown4 hgr4 hg4 _
                have hxa : Below X2.heap.size X2 (X2.alloc (.cells #[.string ⟨#[109, 97, 110, 117, 97, 108]⟩] 9 (0, 0))) := (Below.refl _ _).alloc (Nat.le_refl _) _
                have hst4 : TSt W b T3 w4 := (HST3.out.more hxa).grow (HOWN.out.alloc _) (Nat.le_refl _) hgr4
                have hkp4 : KeepL X2 w4 := (KeepL.below hxa).trans (KeepL.grown (HOWN.out.alloc _) hgr4)
                have hg5 := hkp4 gs _ _ _ (by decide) (by decide) (by decide) HGX.out
                have hc4 := CueD.boxed (q := ⟨cn, ca, ck, cd, ⟨mA, mc, ml⟩, cr, cp⟩) (B := w4.heap.size) hg5 (Array.getElem?_eq_some_iff.1 hg5).1 (After.refl _ _)
                simp only [After.refl] at hc4
                have KL := hide (row_line hst4 HT.out ([(⟨#[99, 117, 101]⟩ : ByteArray), cn] ++ [wdManual]) [cd, cr, cp] hown4 (Nat.le_refl _) (by have := hst4.bel.size; omega) (by simp) (by simp) (by
                  intro n hn; simp only [List.mem_cons, List.not_mem_nil, or_false] at hn
                  rcases hn with rfl | rfl | rfl
                  · exact HQO.out.delay
                  · exact HQO.out.crew
                  · exact HQO.out.power) (by simp) (by
                  have e := cue_words ⟨cn, ca, ck, cd, ml, cr, cp⟩
                  simp only [HLK.out] at e
                  rw [e]
                  have h := HP5.out
                  simp only [List.length_append] at h ⊢
                  omega))
                rw [← HLK.out] at KL
                have ecw := cue_words ⟨cn, ca, ck, cd, ml, cr, cp⟩
                simp only at ecw
                rw [ecw] at KL
                have HK4 := hide hkp4
                clear hst4 hkp4 hg5 hown4 hgr4 hg4 hxa ecw
                go_wp2_with fail
                refine KL.out.mono ?_
                rintro e w5 ⟨rfl, hst5, hk5⟩
                have HS5 := hide hst5
                have hg6 := (HK4.out.trans hk5) gs _ _ _ (by decide) (by decide) (by decide) HGX.out
                have hcs6 := CueD.boxed (q := ⟨cn, ca, ck, cd, ⟨mA, mc, ml⟩, cr, cp⟩) (B := w5.heap.size) hg6 (Array.getElem?_eq_some_iff.1 hg6).1 (After.refl _ _)
                simp only [After.refl] at hcs6
                clear hst5 hk5 KL hg6 hc4
                go_wp2_with fail
                go_loopw [19, 173] (fun _ v wx => ∃ (j : Nat) (T : List UInt8), v = .int .i64 j ∧ j ≤ ml.length ∧ Hid (TSt W b T wx) ∧ Hid (Pend T ((ml.drop j).map moveLn ++ ls3) TT)) (fun _ v _ => ml.length - (intOf v).toNat)
                case atStart => exact ⟨0, _, rfl, Nat.zero_le _, HS5, HP6⟩
                case round =>
                  obtain ⟨j2, T6, rfl, hj2, hst6, hpe6⟩ := hrel
                  by_cases hjl2 : j2 < ml.length
                  · obtain ⟨xb, xo, hA, hxb, hcell⟩ := HQA.out.moves.2.2 (show 0 < ml.length by omega)
                    simp only at hA
                    subst hA
                    obtain ⟨i, hi⟩ : ∃ i, ml[j2]? = some i := ⟨ml[j2], List.getElem?_eq_getElem hjl2⟩
                    have he4 := MoveD.elem hi hxb hcell ⟨wr, hst6.out.bel⟩
                    simp only at he4
                    have hio := HQO.out.moves i (List.mem_of_getElem? hi)
                    obtain ⟨U, hU, hUs, hUb, hUh⟩ := boxed wr (.cells #[.string i.set, .int .i64 i.to, .int .i64 i.speed, .int .i64 i.rise, .int .i64 i.fall] 99)
                    have hcU := MoveD.boxed (B := U.heap.size) hUh (by omega) (After.refl _ _)
                    have hcU2 := fun o : Obj => MoveD.boxed (B := U.heap.size) hUh (by omega) ⟨U.alloc o, (Below.refl _ _).alloc (Nat.le_refl _) o⟩
                    simp only [After.refl] at hcU hcU2
                    have hp4 := hpe6.out
                    rw [drop_map moveLn hi] at hp4
                    obtain ⟨hp5, hp6⟩ := hp4.line HDT.out
                    have KL := hide (lineMove_any (m := i) (hst6.out.more hUb) HT.out hio.til hio.speed hio.rise hio.fall hD hp5)
                    have HP8 := hide hp6
                    have HU := hide hU
                    clear hcell hi hU hUs hUb hUh hp4 hp5 hp6 hio
                    go_upto_region 39 with fail
                    rw [← HU.out]
                    go_wp2_with fail
                    refine KL.out.mono ?_
                    rintro e w7 ⟨rfl, hst7, -⟩
                    have HS7 := hide hst7
                    clear hst7 KL
                    go_wp2_with fail
                    exact ⟨⟨j2 + 1, _, by go_num, by omega, HS7, HP8⟩, by simp [intOf]; omega⟩
                  · have hp6 := hpe6.out
                    rw [show ml.drop j2 = [] from List.drop_eq_nil_of_le (by omega), List.map_nil, List.nil_append, HLS3.out] at hp6
                    have HP7 := hide hp6
                    clear hp6
                    go_wp2_with fail
                    exact ⟨⟨k3 + 1, _, by go_num, by omega, hst6, HP7⟩, by simp [intOf]; omega⟩
            · have hp := hpe3.out
              rw [show (cl.map CueD.pl).drop k3 = [] from List.drop_eq_nil_of_le (by simp; omega), List.flatMap_nil, List.nil_append] at hp
              have HP3 := hide hp
              clear hp hpe3
              go_wp2_with fail
              go_loopw [21, 195] (fun _ v wr => ∃ (k : Nat) (T : List UInt8), v = .int .i64 k ∧ k ≤ pl.length ∧ Hid (TSt W b T wr) ∧ Hid (Pend T ((pl.drop k).map apartLn ++ []) TT)) (fun _ v _ => pl.length - (intOf v).toNat)
              case atStart => exact ⟨0, _, rfl, Nat.zero_le _, hst3, hide (by rw [List.drop_zero, List.append_nil]; exact HP3.out)⟩
              case round =>
                obtain ⟨k4, T4, rfl, hk4, hst4, hpe4⟩ := hrel
                have hcw4 := hc ⟨wr, hst4.out.bel⟩
                simp only at hcw4
                by_cases hlt4 : k4 < pl.length
                · obtain ⟨xb, xo, hA, hxb, hcell⟩ := SAT.out.apart.2.2 (show 0 < pl.length by omega)
                  simp only at hA
                  subst hA
                  obtain ⟨p, hi⟩ : ∃ p, pl[k4]? = some p := ⟨pl[k4], List.getElem?_eq_getElem hlt4⟩
                  have he4 := pairElem hi hxb hcell ⟨wr, hst4.out.bel⟩
                  simp only at he4
                  obtain ⟨U, hU, hUs, hUb, hUh⟩ := boxed wr (.cells #[.string p.1, .string p.2] 100)
                  have hcU := And.intro ((Joins.cell_of_block hUh 0).trans (rfl : _ = some (Value.string p.1))) ((Joins.cell_of_block hUh 1).trans (rfl : _ = some (Value.string p.2)))
                  have hp4 := hpe4.out
                  rw [drop_map apartLn hi] at hp4
                  obtain ⟨hp5, hp6⟩ := hp4.line HDT.out
                  have KL := hide (lineApart_any (p := p) (hst4.out.more hUb) HT.out hD hp5)
                  have HP6 := hide hp6
                  have HU := hide hU
                  clear hcell hi hU hUs hUb hUh hp4 hp5 hp6
                  go_upto_region 45 with fail
                  rw [← HU.out]
                  go_wp2_with fail
                  refine KL.out.mono ?_
                  rintro e w5 ⟨rfl, hst5, -⟩
                  have HS5 := hide hst5
                  clear hst5 KL
                  go_wp2_with fail
                  exact ⟨⟨k4 + 1, _, by go_num, by omega, HS5, HP6⟩, by simp [intOf]; omega⟩
                · have hp := hpe4.out
                  rw [show pl.drop k4 = [] from List.drop_eq_nil_of_le (by omega)] at hp
                  have HTE := hide (show T4 = TT by unfold Pend at hp; simpa using hp)
                  clear hp hpe4
                  have hne : T4 ≠ [] := by
                    rw [HTE.out, HTT.out]
                    intro h0
                    have := congrArg List.length h0
                    simp [textP, linesP, lineT] at this
                  have KN := hide (Gives.first (lenW_any hst4.out))
                  have HEQ : E = textE TT := by rw [HTT.out]; exact HE.out
                  have HTL := hide (show T4.length = D by rw [HTE.out]; exact HDT.out)
                  rw [HTL.out] at KN
                  go_wp2_with fail
                  refine KN.out.mono ?_
                  rintro e w5 ⟨rfl, z, rfl⟩
                  have KS := hide (stringW_any (hst4.out.more z.below) hne)
                  by_cases hbig : (262144 : Int) < (D : Int)
                  · have HV := hide (show E = .tuple #[.string ⟨#[]⟩, .int .i64 4] by rw [HEQ, textE, if_neg (by rw [HDT.out]; omega)])
                    clear HEQ
                    go_wp2_with fail
                    go_ret2
                    exact Gives.mk HV.out.symm (HBD.out ⟨_, hst4.out.bel.trans (z.below.mono hst4.out.bel.size)⟩)
                  · have HV := hide (show E = .tuple #[.string ⟨T4.toArray⟩, .int .i64 0] by rw [HEQ, textE, if_pos (by rw [HDT.out]; omega), HTE.out])
                    clear HEQ
                    go_wp2_with fail
                    refine KS.out.mono ?_
                    rintro e w6 ⟨rfl, hb6⟩
                    go_wp2_with fail
                    go_ret2
                    exact Gives.mk HV.out.symm (HBD.out ⟨_, (hst4.out.bel.trans (z.below.mono hst4.out.bel.size)).trans (hb6.mono hst4.out.le)⟩)
end Go.Proofs.YtcdkhlndohokcaaGreatDoor
