/- gridplan.Draw: the drawing of the plan, or its error number. -/
import Derived.Test.YtliehhnnfpkciaaGreatDoorSetOf
import Derived.Test.YtliehhnnfpkciaaGreatDoorPlanPic
import Derived.Test.YtliehhnnfpkciaaGreatDoorBuilder
import Derived.Test.YtliehhnnfpkciaaGreatDoorString
import Derived.Deep.RegionLaw
import Derived.Deep.RegionWith
import Derived.Deep.DrawnRows
namespace Go.Proofs.YtliehhnnfpkciaaGreatDoor
open Go.RowKit

theorem placed_of_ok {h : HouseD} (hh : houseOk h = true) : ∀ s ∈ h.sets.l, Placed s := fun s hs i hi => by
  have h2 := set_of_ok hh hs
  obtain ⟨_, _, _, l1⟩ := sized_of_ok hh s hs
  rw [setOk] at h2
  simp only [Bool.and_eq_true] at h2
  have h3 := h2.1.2
  rw [itemsOk, Bool.and_eq_true] at h3
  obtain ⟨j, hj, e⟩ := List.getElem_of_mem hi
  have h4 := allIdx_iff.1 h3.2 j i (by rw [List.getElem?_eq_getElem hj, e])
  rw [itemAt, Bool.and_eq_true] at h4
  have := itemFine_small h4.1 l1
  omega

theorem index_mark : ∀ (m : Int), 0 ≤ m → m ≤ 3 → ∀ w, (Instr.index 9 (.string ⟨#[46, 45, 35, 111]⟩) (.int .u8 m)).run Tryz.prog w = .ok (.int .u8 ((markByte m).toNat : Int)) w := by
  intro m h0 h3 w
  obtain rfl | rfl | rfl | rfl : m = 0 ∨ m = 1 ∨ m = 2 ∨ m = 3 := by omega
  all_goals kernel_rfl

set_option maxHeartbeats 4000000 in
set_option maxRecDepth 100000 in
theorem draw_good (h : HouseD) (hok : h.ok) (scale : Int) (h0 : givenE h scale = 0) (R C : Nat) (hR : rowsTo h.sets.l scale = (R : Int)) (hC : colsTo h.sets.l scale = (C : Int)) (hR4 : R ≤ 400) (hC4 : C ≤ 400) (w : World) (B : Nat) (hB : B ≤ w.heap.size) (hat : HouseD.at_ w B h) :
    Calls Tryz.prog 8 #[.agg #[.string h.name, .int .i64 h.height, .slice h.sets.A h.sets.l.length h.sets.cap, .slice h.roofs.A h.roofs.l.length h.roofs.cap], .int .i64 scale] w (Gives w (.tuple #[.string ⟨(planText h.sets.l scale C R).toArray⟩, .int .i64 0])) := by
  obtain ⟨hh, hs1, hs2⟩ := givenE_zero h0
  have hz := sized_of_ok hh
  have hp := placed_of_ok hh
  obtain ⟨W, hW, hWs, hWb, hWh⟩ := boxed w (.cells #[.string h.name, .int .i64 h.height, .slice h.sets.A h.sets.l.length h.sets.cap, .slice h.roofs.A h.roofs.l.length h.roofs.cap] 25)
  have hc := fun y : After W.heap.size W => HouseD.boxed hWh (by omega) y
  have hbd : ∀ v : World, Below W.heap.size W v → Below w.heap.size w v := fun v hv => hWb.trans (hv.mono (by omega))
  have hatW : HouseD.at_ W W.heap.size h := hat.to (hWb.mono hB) (by omega)
  have hg := given_any h hok scale W W.heap.size (Nat.le_refl _) hatW
  rw [h0] at hg
  have hsz : ∀ y : After W.heap.size W, Calls Tryz.prog 23 #[.agg #[.string h.name, .int .i64 h.height, .slice h.sets.A h.sets.l.length h.sets.cap, .slice h.roofs.A h.roofs.l.length h.roofs.cap], .int .i64 scale] y.val fun e w'' => e = .returned (.tuple #[.int .i64 (R : Int), .int .i64 (C : Int)]) ∧ ∃ z : After W.heap.size W, w'' = z.val := fun y => by
    have := Gives.after (Nat.le_refl _) (size_any h hz scale hs1 hs2 y.val W.heap.size y.size (hatW.to y.below (Nat.le_refl _)))
    rw [hR, hC] at this
    exact this
  have hrank : ∀ s ∈ h.sets.l, ∀ v : World, Below W.heap.size W v → ∀ c : Nat, c ≤ 400 → Calls Tryz.prog 24 #[.agg #[.string s.name, .int .i64 s.depth, .int .i64 s.low, .int .i64 s.high, .int .i64 s.length, .slice s.lines.A s.lines.l.length s.lines.cap, .int .i64 s.pipe, .int .i64 s.arbor, .int .i64 s.purchase, .int .i64 s.most, .int .i64 s.brake, .slice s.items.A s.items.l.length s.items.cap, .slice s.bricks.A s.bricks.l.length s.bricks.cap], .int .i64 scale, .int .i64 (c : Int)] v (Gives v (.int .i64 (rankE s ((c : Int) * scale) (((c : Int) + 1) * scale)))) := fun s hs v hv c hc =>
    rank_any s (hp s hs) scale c hs1 hs2 (by omega) (by omega) v W.heap.size hv.size ((hatW.each s hs).to hv (Nat.le_refl _))
  have hrow : ∀ s ∈ h.sets.l, ∃ q : Nat, s.depth / scale = (q : Int) ∧ q < R := fun s hs => by
    have h1 := rowsTo_mem scale hs
    obtain ⟨d0, d1, _, _⟩ := hz s hs
    obtain ⟨q0, _⟩ := quo_bound d0 d1 hs1
    exact ⟨(s.depth / scale).toNat, by omega, by omega⟩
  have hmk1 := fun v : World => run_make_row' (P := Tryz.prog) 53 54 (.slice none 0 0) 24 Tryz.underlying53 infoRows rfl .i64 .i64 R (by omega) (by omega) v
  have hmk2 := fun v : World => run_make_row' (P := Tryz.prog) 54 5 (.int .u8 0) 1 Tryz.underlying54 infoBytes rfl .i64 .i64 C (by omega) (by omega) v
  have hlc : h.sets.l.length ≤ h.sets.cap := hat.sets.1
  have hm : h.sets.cap ≤ 9223372036854775807 := hat.sets.2.1
  have HSL := hide hatW.sets
  have HG := hide hg
  have HS := hide hsz
  have HK := hide hrank
  have HQ := hide hrow
  have HZ := hide hz
  have HW := hide hW
  have HBD := hide hbd
  clear hW hWs hWh hWb hbd hat hatW hok hg hsz hrank hrow hp hz hh h0 hR hC
  obtain ⟨name, height, ⟨A, cap, l⟩, roofs⟩ := h
  simp only at *
  go_enter Tryz.func8, Tryz.ntmps8
  go_wp2_with (first
    | (go_at_call 22; rw [← HW.out]; refine (Gives.first HG.out).mono ?_; rintro e w' ⟨rfl, y, rfl⟩)
    | (go_at_call 23; refine (HS.out _).mono ?_; rintro e w' ⟨rfl, y, rfl⟩))
  obtain ⟨n0, hn0⟩ : ∃ n0, n0 = y.val.heap.size := ⟨_, rfl⟩
  have hyb := y.below
  have hys := y.size
  have hWn : W.heap.size ≤ n0 := by omega
  rw [← hn0]
  have HN := hide hn0
  clear hn0
  go_loopw [10, 42] (fun _ v wr => ∃ k : Nat, v = .int .i64 k ∧ k ≤ R ∧ Making n0 R C k wr ∧ Below W.heap.size W wr) (fun _ v _ => R - (intOf v).toNat)
  case atStart => exact ⟨0, rfl, Nat.zero_le _, by rw [HN.out]; exact Making.start _ R C, hyb.alloc hys _⟩
  case round =>
    obtain ⟨k, rfl, hk, hM, hBw⟩ := hrel
    have hsize := hM.size
    have hnz : n0 < wr.heap.size := by omega
    clear hsize
    have HM := hide hM
    have HB := hide hBw
    by_cases hlt : k < R
    · obtain ⟨old, hold⟩ : ∃ v, wr.cell? ⟨n0, k, none⟩ = some v := ⟨_, hM.outer.cell hlt⟩
      have hfz : wr.frozen? ⟨n0, k, none⟩ = false := hM.outer.frozen k
      clear hM hBw
      go_wp2
      exact ⟨⟨k + 1, by go_num, by omega, HM.out.next, (HB.out.setCell (p := ⟨n0, k, none⟩) hWn _).alloc (by have := HB.out.size; simpa [World.setCell] using this) _⟩, by simp [intOf]; omega⟩
    · have ekR : R = k := by omega
      subst ekR
      have HP := hide hM.done
      clear hM HM HB
      obtain ⟨x, rfl⟩ : ∃ x : After W.heap.size W, wr = x.val := After.exists_iff hBw
      clear hBw
      go_wp2
      have HPS := hide (show PicAt n0 R C (fun r c => marks (l.take 0) scale r c) x.val from HP.out)
      clear HP
      have hx0 : Below W.heap.size W x.val := x.below
      generalize x.val = w0 at *
      go_loopw [13, 14, 54] (fun _ _ v wr => ∃ k : Nat, v = .int .i64 k ∧ k ≤ l.length ∧ PicAt n0 R C (fun r c => marks (l.take k) scale r c) wr ∧ Below W.heap.size W wr) (fun _ _ v _ => l.length - (intOf v).toNat)
      case atStart => exact ⟨0, rfl, Nat.zero_le _, HPS.out, hx0⟩
      case round =>
        obtain ⟨k, rfl, hk, hP, hBw⟩ := hrel
        have HP := hide hP
        by_cases hlt : k < l.length
        · obtain ⟨x, rfl⟩ : ∃ x : After W.heap.size W, wr = x.val := After.exists_iff hBw
          clear hBw
          obtain ⟨b, off, hA, hb, hcell⟩ := HSL.out.2.2 (show 0 < l.length by omega)
          simp only at hA
          subst hA
          have hx : l[k]? = some l[k] := List.getElem?_eq_getElem hlt
          have he := fun x : After W.heap.size W => SetD.elem hx hb hcell x
          obtain ⟨d0, d1, _, _⟩ := HZ.out l[k] (List.getElem_mem hlt)
          obtain ⟨q, hq, hqR⟩ := HQ.out l[k] (List.getElem_mem hlt)
          have HM := hide (fun r c => marks_next scale r c hx)
          have HKK := hide (HK.out l[k] (List.getElem_mem hlt))
          have HX := hide hx
          clear hcell hx
          have hpz := hP.size
          have hqz : n0 < x.val.heap.size := by omega
          have hpc : x.val.cell? ⟨n0, q, none⟩ = some (.slice (some ⟨n0 + 1 + q, 0, none⟩) C C) := hP.outerCell hqR
          have hqi : (0 : Int) ≤ (q : Int) := by omega
          have hqj : (q : Int) < (R : Int) := by omega
          obtain ⟨W', hW', hWs', hWb', hWh'⟩ := boxed x.val (.cells #[.string l[k].name, .int .i64 l[k].depth, .int .i64 l[k].low, .int .i64 l[k].high, .int .i64 l[k].length, .slice l[k].lines.A l[k].lines.l.length l[k].lines.cap, .int .i64 l[k].pipe, .int .i64 l[k].arbor, .int .i64 l[k].purchase, .int .i64 l[k].most, .int .i64 l[k].brake, .slice l[k].items.A l[k].items.l.length l[k].items.cap, .slice l[k].bricks.A l[k].bricks.l.length l[k].bricks.cap] 49)
          have HS' := hide (show PicAt n0 R C (fun r c => if r = q ∧ c < 0 then marks (l.take (k + 1)) scale r c else marks (l.take k) scale r c) W' ∧ Below W.heap.size W W' from ⟨(hP.below (hWb'.mono hpz)).congr fun r c _ _ => by simp, x.below.trans (hWb'.mono x.size)⟩)
          have HWH := hide hWh'
          have HW' := hide hW'
          clear hP hW' hWs' hWb' hWh'
          go_wp2
          rw [← HW'.out, hq]
          have HQQ := hide hq
          clear hq
          go_loopw [14, 67] (fun _ v wr => ∃ j : Nat, v = .int .i64 j ∧ j ≤ C ∧ PicAt n0 R C (fun r c => if r = q ∧ c < j then marks (l.take (k + 1)) scale r c else marks (l.take k) scale r c) wr ∧ Below W.heap.size W wr ∧ wr.heap[x.val.heap.size]? = some (.cells #[.string l[k].name, .int .i64 l[k].depth, .int .i64 l[k].low, .int .i64 l[k].high, .int .i64 l[k].length, .slice l[k].lines.A l[k].lines.l.length l[k].lines.cap, .int .i64 l[k].pipe, .int .i64 l[k].arbor, .int .i64 l[k].purchase, .int .i64 l[k].most, .int .i64 l[k].brake, .slice l[k].items.A l[k].items.l.length l[k].items.cap, .slice l[k].bricks.A l[k].bricks.l.length l[k].bricks.cap] 49 (0, 0))) (fun _ v _ => C - (intOf v).toNat)
          case atStart => exact ⟨0, rfl, Nat.zero_le _, HS'.out.1, HS'.out.2, HWH.out⟩
          case round =>
            obtain ⟨j, rfl, hj, hP2, hB2, hbx⟩ := hrel
            clear he
            by_cases hjt : j < C
            · have hbz : x.val.heap.size < wr.heap.size := (Array.getElem?_eq_some_iff.1 hbx).1
              have hpz2 := hP2.size
              have hcs : wr.cell? ⟨x.val.heap.size, 0, none⟩ = some (.string l[k].name) ∧ wr.cell? ⟨x.val.heap.size, 1, none⟩ = some (.int .i64 l[k].depth) ∧ wr.cell? ⟨x.val.heap.size, 2, none⟩ = some (.int .i64 l[k].low) ∧ wr.cell? ⟨x.val.heap.size, 3, none⟩ = some (.int .i64 l[k].high) ∧ wr.cell? ⟨x.val.heap.size, 4, none⟩ = some (.int .i64 l[k].length) ∧ wr.cell? ⟨x.val.heap.size, 5, none⟩ = some (.slice l[k].lines.A l[k].lines.l.length l[k].lines.cap) ∧ wr.cell? ⟨x.val.heap.size, 6, none⟩ = some (.int .i64 l[k].pipe) ∧ wr.cell? ⟨x.val.heap.size, 7, none⟩ = some (.int .i64 l[k].arbor) ∧ wr.cell? ⟨x.val.heap.size, 8, none⟩ = some (.int .i64 l[k].purchase) ∧ wr.cell? ⟨x.val.heap.size, 9, none⟩ = some (.int .i64 l[k].most) ∧ wr.cell? ⟨x.val.heap.size, 10, none⟩ = some (.int .i64 l[k].brake) ∧ wr.cell? ⟨x.val.heap.size, 11, none⟩ = some (.slice l[k].items.A l[k].items.l.length l[k].items.cap) ∧ wr.cell? ⟨x.val.heap.size, 12, none⟩ = some (.slice l[k].bricks.A l[k].bricks.l.length l[k].bricks.cap) := SetD.boxed hbx hbz (After.refl _ wr)
              have hcy := fun y : After wr.heap.size wr => SetD.boxed hbx hbz y
              have hv0 : wr.cell? ⟨n0 + 1 + q, j, none⟩ = some (.int .u8 (marks (l.take k) scale q j)) := by have := hP2.cell hqR hjt; simpa using this
              have hf0 : wr.frozen? ⟨n0 + 1 + q, j, none⟩ = false := hP2.frozen hqR j
              have hvy : ∀ y : After wr.heap.size wr, y.val.cell? ⟨n0 + 1 + q, j, none⟩ = some (.int .u8 (marks (l.take k) scale q j)) := fun y => (y.below.cell (by simp only; omega)).trans hv0
              have hfy : ∀ y : After wr.heap.size wr, y.val.frozen? ⟨n0 + 1 + q, j, none⟩ = false := fun y => (y.below.frozen (by simp only; omega)).trans hf0
              have hk1 : ∀ v : World, Below wr.heap.size wr v → Calls Tryz.prog 24 #[.agg #[.string l[k].name, .int .i64 l[k].depth, .int .i64 l[k].low, .int .i64 l[k].high, .int .i64 l[k].length, .slice l[k].lines.A l[k].lines.l.length l[k].lines.cap, .int .i64 l[k].pipe, .int .i64 l[k].arbor, .int .i64 l[k].purchase, .int .i64 l[k].most, .int .i64 l[k].brake, .slice l[k].items.A l[k].items.l.length l[k].items.cap, .slice l[k].bricks.A l[k].bricks.l.length l[k].bricks.cap], .int .i64 scale, .int .i64 (j : Int)] v fun e w'' => e = .returned (.int .i64 (rankE l[k] ((j : Int) * scale) (((j : Int) + 1) * scale))) ∧ ∃ y : After wr.heap.size wr, w'' = y.val := fun v hv =>
                (Gives.after (x := ⟨v, hv⟩) (Nat.le_refl _) (HKK.out v (hB2.trans (hv.mono hB2.size)) j (by omega)))
              obtain ⟨m0, m3⟩ := marks_bound (l.take k) scale q j
              obtain ⟨r0, r3⟩ := rankE_bound l[k] ((j : Int) * scale) (((j : Int) + 1) * scale)
              have HMQ := hide (show marks (l.take (k + 1)) scale q j = max (marks (l.take k) scale q j) (rankE l[k] ((j : Int) * scale) (((j : Int) + 1) * scale)) by rw [HM.out, markStep, if_pos HQQ.out])
              have HK1 := hide hk1
              have HP2 := hide hP2
              have HB2 := hide hB2
              have HBX := hide hbx
              clear hk1 hP2 hB2 hbx hpz2
              generalize marks (l.take k) scale q j = mm at *
              generalize rankE l[k] ((j : Int) * scale) (((j : Int) + 1) * scale) = rr at *
              go_wp2_with fail
              go_region_with ((go_at_call 24; refine (HK1.out _ (by first | exact (Below.refl _ _).drew | exact Below.refl _ _)).mono ?_; rintro e w' ⟨rfl, y, rfl⟩))
              all_goals go_wp2
              all_goals
                refine ⟨?_, by simp [intOf]; omega⟩
                refine ⟨j + 1, by go_num, by omega, ((HP2.out.below (y.below.mono HP2.out.size)).set j hqR _).congr fun r c hr hc => ?_, (HB2.out.trans (y.below.mono HB2.out.size)).setCell (by simp only; omega) _, ?_⟩
                · rw [← HMQ.out]
                  by_cases e1 : r = q
                  · subst e1
                    by_cases e2 : c = j
                    · subst e2; simp
                    · by_cases e3 : c < j
                      · simp [e2, e3, show c < j + 1 by omega]
                      · simp [e2, e3, show ¬ c < j + 1 by omega]
                  · simp [e1]
                · rw [Below.heap_setCell _ _ _ _ (by simp only; omega), y.below.block _ hbz]; exact HBX.out
            · have ejC : j = C := by omega
              subst ejC
              go_wp2
              refine ⟨⟨k + 1, by go_num, by omega, hP2.congr fun r c _ hc => ?_, hB2⟩, by simp [intOf]; omega⟩
              by_cases e1 : r = q
              · simp [e1, hc]
              · simp only [e1, false_and, if_false]
                rw [HM.out, markStep, if_neg (by rw [HQQ.out]; omega)]
        · have ekl : k = l.length := by omega
          subst ekl
          have HPF := hide (show PicAt n0 R C (marks l scale) wr by have := HP.out; rwa [List.take_length] at this)
          have hpz := hP.size
          clear hP HP
          go_wp2
          obtain ⟨b, hbe⟩ : ∃ b, b = wr.heap.size := ⟨_, rfl⟩
          have hib : Lib.IsBuilder 58 5 b b (Lib.byteCells (planText l scale C 0)) (wr.alloc (.cells #[.pointer none, .slice none 0 0] 58)) := by rw [hbe]; exact Lib.fresh_isBuilder _ _ wr
          have HIB := hide (And.intro hib (show Below b wr (wr.alloc (.cells #[.pointer none, .slice none 0 0] 58)) from (Below.refl b wr).alloc (by omega) _))
          have hbn : n0 + 1 + R ≤ b := by omega
          have hbW : W.heap.size ≤ b := by omega
          rw [← hbe]
          clear hib hbe hpz
          generalize wr.alloc (.cells #[.pointer none, .slice none 0 0] 58) = w1 at *
          have hP1 : PicAt n0 R C (marks l scale) w1 := HPF.out.below (HIB.out.2.mono hbn)
          have hB1 : Below W.heap.size W w1 := hBw.trans (HIB.out.2.mono hbW)
          have HP1 := hide hP1
          have HB1 := hide hB1
          clear HPF hBw hP1 hB1
          go_loopw [17, 19, 87] (fun _ _ v wr => ∃ i : Nat, v = .int .i64 i ∧ i ≤ R ∧ Lib.IsBuilder 58 5 b b (Lib.byteCells (planText l scale C i)) wr ∧ Below b w1 wr) (fun _ _ v _ => R - (intOf v).toNat)
          case atStart => exact ⟨0, rfl, Nat.zero_le _, HIB.out.1, Below.refl _ _⟩
          case round =>
            obtain ⟨i, rfl, hi, hI, hBb⟩ := hrel
            have HI := hide hI
            have HBb := hide hBb
            by_cases hit : i < R
            · have hoc : wr.cell? ⟨n0, i, none⟩ = some (.slice (some ⟨n0 + 1 + i, 0, none⟩) C C) := (HP1.out.below (hBb.mono hbn)).outerCell hit
              clear hI hBb
              go_wp2
              go_loopw [19, 93] (fun _ v wr => ∃ j : Nat, v = .int .i64 j ∧ j ≤ C ∧ Lib.IsBuilder 58 5 b b (Lib.byteCells (planText l scale C i ++ rowText l scale i j)) wr ∧ Below b w1 wr) (fun _ v _ => C - (intOf v).toNat)
              case atStart => exact ⟨0, rfl, Nat.zero_le _, by simpa [rowText] using HI.out, HBb.out⟩
              case round =>
                obtain ⟨j, rfl, hj, hI2, hBb2⟩ := hrel
                have HI2 := hide hI2
                have HBb2 := hide hBb2
                have hlen := planText_small l scale (C := C) (i := i) hC4 (by omega)
                have hlen2 := rowText_length l scale i j
                have hbz : b ≤ wr.heap.size := by
                  rcases hI2 with h | h <;> exact Nat.le_of_lt h.lt
                have HLN := hide (show (Lib.byteCells (planText l scale C i ++ rowText l scale i j)).length + 1 ≤ 140737488355328 by rw [Lib.byteCells_length, List.length_append]; omega)
                clear hlen hlen2
                by_cases hjt : j < C
                · have hcc : wr.cell? ⟨n0 + 1 + i, j, none⟩ = some (.int .u8 (marks l scale i j)) := (HP1.out.below (hBb2.mono hbn)).cell hit hjt
                  obtain ⟨m0, m3⟩ := marks_bound l scale i j
                  have hixm := index_mark (marks l scale i j) m0 m3
                  have HRT := hide (rowText_next l scale i j)
                  clear hI2 hBb2
                  generalize marks l scale i j = mm at *
                  go_wp2_with (go_at_call 25; refine (writeByte_any b b _ _ _ HI2.out HLN.out hbz).mono ?_; rintro e w' ⟨rfl, hA, hBl⟩)
                  exact ⟨⟨j + 1, by go_num, by omega, .inr (by rw [HRT.out, ← List.append_assoc, Lib.byteCells_append]; exact hA), HBb2.out.trans hBl⟩, by simp [intOf]; omega⟩
                · have ejC : j = C := by omega
                  subst ejC
                  clear hI2 hBb2
                  go_wp2_with (go_at_call 25; refine (writeByte_any b b _ _ _ HI2.out HLN.out hbz).mono ?_; rintro e w' ⟨rfl, hA, hBl⟩)
                  exact ⟨⟨i + 1, by go_num, by omega, .inr (by rw [planText, Lib.byteCells_append]; exact hA), HBb2.out.trans hBl⟩, by simp [intOf]; omega⟩
            · have eir : i = R := by omega
              subst eir
              have hbz : b ≤ wr.heap.size := by
                rcases hI with h | h <;> exact Nat.le_of_lt h.lt
              clear hI hBb
              go_wp2_with fail
              refine (string_any b b _ _ HI.out hbz).mono ?_
              rintro e w' ⟨rfl, hBl⟩
              go_wp2
              go_ret2
              exact Gives.mk rfl (HBD.out _ (HB1.out.trans ((HBb.out.trans hBl).mono hbW)))
set_option maxHeartbeats 1000000 in
theorem draw_bad (h : HouseD) (hok : h.ok) (scale : Int) (h0 : givenE h scale ≠ 0) (w : World) (B : Nat) (hB : B ≤ w.heap.size) (hat : HouseD.at_ w B h) :
    Calls Tryz.prog 8 #[.agg #[.string h.name, .int .i64 h.height, .slice h.sets.A h.sets.l.length h.sets.cap, .slice h.roofs.A h.roofs.l.length h.roofs.cap], .int .i64 scale] w (Gives w (.tuple #[.string ⟨#[]⟩, .int .i64 (givenE h scale)])) := by
  obtain ⟨W, hW, hWs, hWb, hWh⟩ := boxed w (.cells #[.string h.name, .int .i64 h.height, .slice h.sets.A h.sets.l.length h.sets.cap, .slice h.roofs.A h.roofs.l.length h.roofs.cap] 25)
  have hc := fun y : After W.heap.size W => HouseD.boxed hWh (by omega) y
  have hbd : ∀ y : After W.heap.size W, Below w.heap.size w y.val := fun y => hWb.trans (y.below.mono (by omega))
  have hg := given_any h hok scale W W.heap.size (Nat.le_refl _) (hat.to (hWb.mono hB) (by omega))
  have HG := hide hg
  have HW := hide hW
  have HBD := hide hbd
  clear hW hWs hWh hWb hbd hat hok hg
  have h1 : (givenE h scale != 0) = true := by rw [bne_iff_ne]; exact h0
  clear h0
  go_enter Tryz.func8, Tryz.ntmps8
  go_wp2_with (go_at_call 22; rw [← HW.out]; refine (Gives.first HG.out).mono ?_; rintro e w' ⟨rfl, y, rfl⟩)
  go_ret2
  exact Gives.mk rfl (HBD.out _)
set_option maxHeartbeats 1000000 in
theorem draw_full (h : HouseD) (hok : h.ok) (scale : Int) (h0 : givenE h scale = 0) (hf : 400 < rowsTo h.sets.l scale ∨ 400 < colsTo h.sets.l scale) (w : World) (B : Nat) (hB : B ≤ w.heap.size) (hat : HouseD.at_ w B h) :
    Calls Tryz.prog 8 #[.agg #[.string h.name, .int .i64 h.height, .slice h.sets.A h.sets.l.length h.sets.cap, .slice h.roofs.A h.roofs.l.length h.roofs.cap], .int .i64 scale] w (Gives w (.tuple #[.string ⟨#[]⟩, .int .i64 4])) := by
  obtain ⟨W, hW, hWs, hWb, hWh⟩ := boxed w (.cells #[.string h.name, .int .i64 h.height, .slice h.sets.A h.sets.l.length h.sets.cap, .slice h.roofs.A h.roofs.l.length h.roofs.cap] 25)
  have hc := fun y : After W.heap.size W => HouseD.boxed hWh (by omega) y
  have hbd : ∀ y : After W.heap.size W, Below w.heap.size w y.val := fun y => hWb.trans (y.below.mono (by omega))
  have hatW : HouseD.at_ W W.heap.size h := hat.to (hWb.mono hB) (by omega)
  have hg := given_any h hok scale W W.heap.size (Nat.le_refl _) hatW
  rw [h0] at hg
  have hsz : ∀ y : After W.heap.size W, Calls Tryz.prog 23 #[.agg #[.string h.name, .int .i64 h.height, .slice h.sets.A h.sets.l.length h.sets.cap, .slice h.roofs.A h.roofs.l.length h.roofs.cap], .int .i64 scale] y.val fun e w'' => e = .returned (.tuple #[.int .i64 (rowsTo h.sets.l scale), .int .i64 (colsTo h.sets.l scale)]) ∧ ∃ z : After W.heap.size W, w'' = z.val := fun y => by
    obtain ⟨a, b, c⟩ := givenE_zero h0
    exact Gives.after (Nat.le_refl _) (size_any h (sized_of_ok a) scale b c y.val W.heap.size y.size (hatW.to y.below (Nat.le_refl _)))
  have HG := hide hg
  have HS := hide hsz
  have HW := hide hW
  have HBD := hide hbd
  clear hW hWs hWh hWb hbd hat hatW hok hg hsz h0
  generalize rowsTo h.sets.l scale = r at *
  generalize colsTo h.sets.l scale = c at *
  by_cases h1 : 400 < r
  · clear hf
    go_enter Tryz.func8, Tryz.ntmps8
    go_wp2_with (first
      | (go_at_call 22; rw [← HW.out]; refine (Gives.first HG.out).mono ?_; rintro e w' ⟨rfl, y, rfl⟩)
      | (go_at_call 23; refine (HS.out _).mono ?_; rintro e w' ⟨rfl, y, rfl⟩))
    go_ret2
    exact Gives.mk rfl (HBD.out _)
  · have h2 : 400 < c := by omega
    clear hf
    go_enter Tryz.func8, Tryz.ntmps8
    go_wp2_with (first
      | (go_at_call 22; rw [← HW.out]; refine (Gives.first HG.out).mono ?_; rintro e w' ⟨rfl, y, rfl⟩)
      | (go_at_call 23; refine (HS.out _).mono ?_; rintro e w' ⟨rfl, y, rfl⟩))
    go_ret2
    exact Gives.mk rfl (HBD.out _)
end Go.Proofs.YtliehhnnfpkciaaGreatDoor
