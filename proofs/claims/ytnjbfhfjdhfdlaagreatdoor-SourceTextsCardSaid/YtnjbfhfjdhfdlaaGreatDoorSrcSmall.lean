/- loftblockref31.Small, loftblocklaw31.few: where the answer is yes, each cue has few moves. -/
import Derived.Test.YtnjbfhfjdhfdlaaGreatDoorSrcSheet
import Derived.Test.YtnjbfhfjdhfdlaaGreatDoorSmall
namespace Go.Proofs.YtnjbfhfjdhfdlaaGreatDoor
open Go Go.RowKit

/-- what few and Small give: an answer; where it is yes the cues have few moves -/
def FewPost (w : World) (s : SheetD) (e : Ending) (w' : World) : Prop := ∃ r : Bool, e = .returned (.bool r) ∧ Below w.heap.size w w' ∧ (r = true → ∀ q ∈ s.cues.l, q.moves.l.length ≤ 20)
theorem FewPost.no {w w' : World} {s : SheetD} (h : Below w.heap.size w w') : FewPost w s (.returned (.bool false)) w' := ⟨false, rfl, h, fun h => by cases h⟩
set_option maxRecDepth 100000 in
set_option maxHeartbeats 8000000 in
theorem refSheetSmall_any (s : SheetD) (w : World) (B : Nat) (hB : B ≤ w.heap.size) (hat : SheetD.at_ w B s) : Calls Tryz.prog 28 #[.agg #[.slice s.cues.A s.cues.l.length s.cues.cap, .slice s.apart.A s.apart.l.length s.apart.cap]] w (FewPost w s) := by
  obtain ⟨W, hW, hWs, hWb, hWh⟩ := boxed w (.cells #[.slice s.cues.A s.cues.l.length s.cues.cap, .slice s.apart.A s.apart.l.length s.apart.cap] 29)
  have hc := fun y : After W.heap.size W => SheetD.boxed hWh (by omega) y
  have hbd : ∀ y : After W.heap.size W, Below w.heap.size w y.val := fun y => hWb.trans (y.below.mono (by omega))
  have hatW : SheetD.at_ W W.heap.size s := hat.to (hWb.mono hB) (by omega)
  have hm : s.cues.cap ≤ 9223372036854775807 := hat.cues.2.1
  have hlc : s.cues.l.length ≤ s.cues.cap := hat.cues.1
  have hm2 : s.apart.cap ≤ 9223372036854775807 := hat.apart.2.1
  have hlc2 : s.apart.l.length ≤ s.apart.cap := hat.apart.1
  have HAT := hide hatW
  have HW := hide hW
  have HBD := hide hbd
  have HNO := hide (fun y : After W.heap.size W => FewPost.no (s := s) (hbd y))
  have HYES := hide (fun (y : After W.heap.size W) (k : Nat) (hk : s.cues.l.length ≤ k) (hu : UpTo (fun _ (q : CueD) => decide (q.moves.l.length ≤ 20)) s.cues.l k) => (show FewPost w s (.returned (.bool true)) y.val from ⟨true, rfl, hbd y, fun _ q hq => by
    obtain ⟨j, hj, e⟩ := List.getElem_of_mem hq
    have h := hu j q (by omega) (by rw [List.getElem?_eq_getElem hj, e])
    simpa using h⟩))
  clear hW hWh hWb hbd hatW hat
  obtain ⟨PP, hPP⟩ : ∃ PP, PP = FewPost w s := ⟨_, rfl⟩
  rw [← hPP] at HNO HYES ⊢
  clear hPP
  have hc0 := hc (After.refl _ _)
  simp only [After.refl] at hc0
  obtain ⟨⟨A, cap, l⟩, ⟨pA, pcap, pl⟩⟩ := s
  simp only at *
  go_enter Tryz.func28, Tryz.ntmps28
  go_upto_region 1 with fail
  rw [← HW.out]
  by_cases hn1 : 20 < (l.length : Int)
  · go_wp2_with fail
    exact HNO.out (After.refl _ _)
  by_cases hn2 : 20 < (pl.length : Int)
  · go_wp2_with fail
    exact HNO.out (After.refl _ _)
  go_wp2_with fail
  go_loopw [3] (fun v wr => ∃ k : Nat, v = .int .i64 k ∧ k ≤ l.length ∧ Hid (UpTo (fun _ (q : CueD) => decide (q.moves.l.length ≤ 20)) l k) ∧ ∃ x : After W.heap.size W, wr = x.val) (fun v _ => l.length - (intOf v).toNat)
  case atStart => exact ⟨0, rfl, Nat.zero_le _, hide (UpTo.zero _ _), After.refl _ _, rfl⟩
  case round =>
    obtain ⟨k, rfl, hk, hall, x, rfl⟩ := hrel
    by_cases hlt : k < l.length
    · obtain ⟨b, off, hA, hb, hcell⟩ := HAT.out.cues.2.2 (show 0 < l.length by omega)
      simp only at hA
      subst hA
      obtain ⟨q, hx⟩ : ∃ q, l[k]? = some q := ⟨l[k], List.getElem?_eq_getElem hlt⟩
      have hmem : q ∈ l := List.mem_of_getElem? hx
      have he := fun x : After W.heap.size W => CueD.elem hx hb hcell x
      have hatq := HAT.out.each q hmem
      have HX := hide hx
      clear hcell hx hmem
      obtain ⟨nm, af, lk, dl, ⟨mA, mc, ml⟩, cr, pw⟩ := q
      simp only at *
      have hmc : mc ≤ 9223372036854775807 := hatq.moves.2.1
      have hmlc : ml.length ≤ mc := hatq.moves.1
      obtain ⟨V, hV, hVs, hVb, hVh⟩ := boxed x.val (.cells #[.string nm, .string af, .int .i64 lk, .int .i64 dl, .slice mA ml.length mc, .int .i64 cr, .int .i64 pw] 80)
      have hcq := fun y : After V.heap.size V => CueD.boxed (q := ⟨nm, af, lk, dl, ⟨mA, mc, ml⟩, cr, pw⟩) hVh (by omega) y
      simp only at hcq
      have hcq0 := hcq (After.refl _ _)
      simp only [After.refl] at hcq0
      have hbV : ∀ y : After V.heap.size V, Below W.heap.size W y.val := fun y => x.below.trans ((hVb.mono x.size).trans (y.below.mono (by have := x.size; omega)))
      have hcy := fun y : After V.heap.size V => hc ⟨y.val, hbV y⟩
      simp only at hcy
      have HV := hide hV
      have HBV := hide hbV
      have HATM := hide (hatq.moves.to (hbV (After.refl _ _)) (show W.heap.size ≤ V.heap.size by have := x.size; omega))
      simp only [After.refl] at HATM
      clear hV hVs hVb hVh hbV hatq
      go_upto_region 7 with fail
      rw [← HV.out]
      by_cases hq1 : 60 < (nm.size : Int)
      · go_wp2_with fail
        exact HNO.out ⟨V, HBV.out (After.refl _ _)⟩
      by_cases hq2 : 60 < (af.size : Int)
      · go_wp2_with fail
        exact HNO.out ⟨V, HBV.out (After.refl _ _)⟩
      by_cases hq3 : 20 < (ml.length : Int)
      · go_wp2_with fail
        exact HNO.out ⟨V, HBV.out (After.refl _ _)⟩
      go_wp2_with fail
      go_loopw [5] (fun v wr => ∃ j : Nat, v = .int .i64 j ∧ j ≤ ml.length ∧ ∃ y : After V.heap.size V, wr = y.val) (fun v _ => ml.length - (intOf v).toNat)
      case atStart => exact ⟨0, rfl, Nat.zero_le _, After.refl _ _, rfl⟩
      case round =>
        obtain ⟨j, rfl, hj, y, rfl⟩ := hrel
        have hcz := hcq y
        by_cases hlt2 : j < ml.length
        · obtain ⟨b2, off2, hA2, hb2, hcell2⟩ := HATM.out.2.2 (show 0 < ml.length by omega)
          simp only at hA2
          subst hA2
          obtain ⟨m, hx2⟩ : ∃ m, ml[j]? = some m := ⟨ml[j], List.getElem?_eq_getElem hlt2⟩
          have he2 := MoveD.elem hx2 hb2 hcell2 y
          clear hcell2 hx2
          by_cases hs1 : 60 < (m.set.size : Int)
          · go_wp2_with fail
            exact HNO.out ⟨y.val, HBV.out y⟩
          · go_wp2_with fail
            exact ⟨⟨j + 1, by go_num, by omega, y, rfl⟩, by simp [intOf]; omega⟩
        · go_wp2_with fail
          exact ⟨⟨k + 1, by go_num, by omega, hide (hall.out.next HX.out (by simp; omega)), ⟨y.val, HBV.out y⟩, rfl⟩, by simp [intOf]; omega⟩
    · have HLK := hide (show l.length ≤ k by omega)
      go_wp2_with fail
      go_loopw [6] (fun v wr => ∃ j : Nat, v = .int .i64 j ∧ j ≤ pl.length ∧ ∃ y : After W.heap.size W, wr = y.val) (fun v _ => pl.length - (intOf v).toNat)
      case atStart => exact ⟨0, rfl, Nat.zero_le _, x, rfl⟩
      case round =>
        obtain ⟨j, rfl, hj, y, rfl⟩ := hrel
        have hcz := hc y
        by_cases hlt2 : j < pl.length
        · obtain ⟨b2, off2, hA2, hb2, hcell2⟩ := HAT.out.apart.2.2 (show 0 < pl.length by omega)
          simp only at hA2
          subst hA2
          obtain ⟨⟨p1, p2⟩, hx2⟩ : ∃ m, pl[j]? = some m := ⟨pl[j], List.getElem?_eq_getElem hlt2⟩
          have he2 := pairElem hx2 hb2 hcell2 y
          simp only at he2
          clear hcell2 hx2
          by_cases hs1 : 60 < (p1.size : Int)
          · go_wp2_with fail
            exact HNO.out y
          by_cases hs2 : 60 < (p2.size : Int)
          · go_wp2_with fail
            exact HNO.out y
          go_wp2_with fail
          exact ⟨⟨j + 1, by go_num, by omega, y, rfl⟩, by simp [intOf]; omega⟩
        · go_wp2_with fail
          exact HYES.out y k HLK.out hall.out
set_option maxRecDepth 100000 in
set_option maxHeartbeats 4000000 in
theorem few_any (h : HouseD) (s : SheetD) (w : World) (B : Nat) (hB : B ≤ w.heap.size) (hat : HouseD.at_ w B h) (sat : SheetD.at_ w B s) : Calls Tryz.prog 9 #[.agg #[.string h.name, .int .i64 h.height, .slice h.sets.A h.sets.l.length h.sets.cap, .slice h.roofs.A h.roofs.l.length h.roofs.cap], .agg #[.slice s.cues.A s.cues.l.length s.cues.cap, .slice s.apart.A s.apart.l.length s.apart.cap]] w (FewPost w s) := by
  obtain ⟨W1, hW1, hs1, hb1, hh1⟩ := boxed w (.cells #[.string h.name, .int .i64 h.height, .slice h.sets.A h.sets.l.length h.sets.cap, .slice h.roofs.A h.roofs.l.length h.roofs.cap] 25)
  obtain ⟨W, hW2, hs2, hb2, hh2⟩ := boxed W1 (.cells #[.slice s.cues.A s.cues.l.length s.cues.cap, .slice s.apart.A s.apart.l.length s.apart.cap] 29)
  have hb : Below w.heap.size w W := hb1.trans (hb2.mono (by omega))
  have hh1' := (hb2.block _ (by omega)).trans hh1
  rw [hs1] at hh2
  have hc := fun y : After W.heap.size W => And.intro (HouseD.boxed hh1' (by omega) y) (SheetD.boxed hh2 (by omega) y)
  have hc0 := hc (After.refl _ _)
  simp only [After.refl] at hc0
  have hatW := hat.to (hb.mono hB) (show B ≤ W.heap.size by omega)
  have satW := sat.to (hb.mono hB) (show B ≤ W.heap.size by omega)
  have K1 := hide (Gives.first (refHouseSmall_any h 8 (by decide) (by decide) W W.heap.size (Nat.le_refl _) hatW))
  have K2 := hide (fun y : After W.heap.size W => refSheetSmall_any s y.val W.heap.size y.size (satW.to y.below (Nat.le_refl _)))
  have HB := hide hb
  have HW := hide (show (w.alloc (.cells #[.string h.name, .int .i64 h.height, .slice h.sets.A h.sets.l.length h.sets.cap, .slice h.roofs.A h.roofs.l.length h.roofs.cap] 25)).alloc (.cells #[.slice s.cues.A s.cues.l.length s.cues.cap, .slice s.apart.A s.apart.l.length s.apart.cap] 29) = W by rw [← hW1, ← hW2])
  clear hW1 hW2 hb1 hb2 hh1 hh2 hh1' hat sat hatW satW hb
  cases hs : houseSmall h 8
  · rw [hs] at K1
    go_enter Tryz.func9, Tryz.ntmps9
    go_upto_region 1 with fail
    rw [HW.out]
    go_wp2_with (go_at_call 27; refine K1.out.mono ?_; rintro e w' ⟨rfl, y, rfl⟩)
    go_ret
    exact FewPost.no (HB.out.trans (y.below.mono HB.out.size))
  · rw [hs] at K1
    go_enter Tryz.func9, Tryz.ntmps9
    go_upto_region 1 with fail
    rw [HW.out]
    go_wp2_with (first
      | (go_at_call 27; refine K1.out.mono ?_; rintro e w' ⟨rfl, y, rfl⟩; have hcy := hc y)
      | (go_at_call 28; refine (K2.out y).mono ?_; rintro e w' ⟨r, rfl, hb2, hr⟩))
    go_ret
    exact ⟨r, rfl, HB.out.trans ((y.below.mono HB.out.size).trans (hb2.mono (Nat.le_trans HB.out.size y.size))), hr⟩
end Go.Proofs.YtnjbfhfjdhfdlaaGreatDoor
