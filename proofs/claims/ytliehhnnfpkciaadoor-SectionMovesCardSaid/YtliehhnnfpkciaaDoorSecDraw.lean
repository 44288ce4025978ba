/- section.Draw: the section as text, for a right house, scale and trims. -/
import Derived.Test.YtliehhnnfpkciaaDoorSecSpec
import Derived.Test.YtliehhnnfpkciaaDoorQuietTail
import Derived.Test.YtliehhnnfpkciaaDoorSecJoin
import Derived.Laws.BytesString
namespace Go.Proofs.YtliehhnnfpkciaaDoor
open Go.RowKit

theorem infoRow60 : (Tryd.prog.info? 56).map (fun i => (i.zero, i.size, i.bytes)) = some (some (.slice none 0 0), 1, 24) := by kernel_rfl
theorem PicBox.grown {pb : Nat} {scale R C : Int} {v : Value} {w w' : World} (h : PicBox pb scale R C v w) (hg : w.grownBy w' v.ownBlock) (hne : v.ownBlock ≠ some pb) : PicBox pb scale R C v w' :=
  h.of_block (hg.block pb h.lt (fun e => hne e.symm))
set_option maxHeartbeats 8000000 in
set_option maxRecDepth 100000 in
theorem secDraw_good (h : HouseD) (hok : h.ok) (trims : Sl Int) (scale : Int) (h0 : secE h scale = 0) (ht : trimsE h.sets.l trims.l = 0) (R C : Nat) (hR : secRows h scale = (R : Int)) (hC : secCols h scale = (C : Int)) (w : World) (B : Nat) (hB : B ≤ w.heap.size) (hat : HouseD.at_ w B h) (hatT : SlAt w B 1 intCells trims) :
    Calls Tryd.prog 19 #[.agg #[.string h.name, .int .i64 h.height, .slice h.sets.A h.sets.l.length h.sets.cap, .slice h.roofs.A h.roofs.l.length h.roofs.cap], .slice trims.A trims.l.length trims.cap, .int .i64 scale] w (Gives w (.tuple #[.string ⟨(secText h.sets.l trims.l scale ((R : Int) - 1) C R).toArray⟩, .int .i64 0])) := by
  obtain ⟨hlen, htk⟩ := trimsE_zero ht
  obtain ⟨hg, _⟩ := secE_zero h0
  obtain ⟨hh, hs1, hs2⟩ := givenE_zero hg
  obtain ⟨R1, R2, C1, C2⟩ := rows_bound h0
  have hz := secSet_of_ok hh
  rw [hR] at R1 R2
  rw [hC] at C1 C2
  obtain ⟨W, hW, hWs, hWb, hWh⟩ := boxed w (.cells #[.string h.name, .int .i64 h.height, .slice h.sets.A h.sets.l.length h.sets.cap, .slice h.roofs.A h.roofs.l.length h.roofs.cap] 25)
  have hc := fun y : After W.heap.size W => HouseD.boxed hWh (by omega) y
  have hbd : ∀ v : World, Below W.heap.size W v → Below w.heap.size w v := fun v hv => hWb.trans (hv.mono (by omega))
  have hatW : HouseD.at_ W W.heap.size h := hat.to (hWb.mono hB) (by omega)
  have hatTW : SlAt W W.heap.size 1 intCells trims := hatT.to (hWb.mono hB) (by omega)
  have hbg := begun_ok h hok scale h0 W W.heap.size (Nat.le_refl _) hatW
  unfold Begun at hbg
  rw [hR, hC] at hbg
  have hlc : h.sets.l.length ≤ h.sets.cap := hat.sets.1
  have hm : h.sets.cap ≤ 9223372036854775807 := hat.sets.2.1
  have htc : trims.l.length ≤ trims.cap := hatT.1
  have htm : trims.cap ≤ 9223372036854775807 := hatT.2.1
  have HSL := hide hatW.sets
  have HEA := hide hatW.each
  have HTR := hide hatTW
  have HG := hide hbg
  have HZ := hide hz
  have HTK := hide htk
  have HW := hide hW
  have HBD := hide hbd
  have HLN := hide hlen
  have hwW : ∀ y : After W.heap.size W, w.heap.size < y.val.heap.size := fun y => Nat.lt_of_lt_of_le (show w.heap.size < W.heap.size by omega) y.size
  have hnl : ((trims.l.length : Int) != (h.sets.l.length : Int)) = false := by rw [hlen]; simp
  clear hW hWs hWh hWb hbd hat hatW hatT hatTW hok hbg h0 ht hg hh hz htk hR hC hlen
  obtain ⟨name, height, ⟨A, cap, l⟩, roofs⟩ := h
  obtain ⟨TA, tcap, tr⟩ := trims
  simp only at *
  go_enter Tryd.func19, Tryd.ntmps19
  go_wp2_with (go_at_call 50; rw [← HW.out]; refine HG.out.mono ?_; rintro e w0 ⟨hb, pb, hpb, rfl, hP⟩; obtain ⟨x0, rfl⟩ : ∃ x : After W.heap.size W, w0 = x.val := After.exists_iff hb)
  have HP0 := hide (And.intro hP hb)
  clear hP hb
  go_loopw [10, 11, 41] (fun _ _ v wr => ∃ k : Nat, v = .int .i64 k ∧ k ≤ l.length ∧ PicBox pb scale (R : Int) (C : Int) (.slice none 0 0) wr ∧ Below W.heap.size W wr) (fun _ _ v _ => l.length - (intOf v).toNat)
  case atStart => exact ⟨0, rfl, Nat.zero_le _, HP0.out⟩
  case round =>
    obtain ⟨k, rfl, hk, hP, hBw⟩ := hrel
    obtain ⟨x, rfl⟩ : ∃ x : After W.heap.size W, wr = x.val := After.exists_iff hBw
    have HP := hide hP
    clear HP0
    by_cases hlt : k < l.length
    · obtain ⟨b, off, hA, hbk, hcell⟩ := HSL.out.2.2 (show 0 < l.length by omega)
      obtain ⟨bt, offt, hTA, hbt, hcellt⟩ := HTR.out.2.2 (show 0 < tr.length by have := HLN.out; omega)
      simp only at hA hTA
      subst hA
      subst hTA
      have hx : l[k]? = some l[k] := List.getElem?_eq_getElem hlt
      have he := fun x : After W.heap.size W => SetD.elem hx hbk hcell x
      have hkt : k < tr.length := by have := HLN.out; omega
      have hxt : tr[k]? = some (nth tr k) := nth_get hkt
      have htr := fun x : After W.heap.size W => intElem hxt hbt hcellt x
      have hok2 := HTK.out k hkt
      rw [trimOk, Bool.and_eq_true, setN_of hx] at hok2
      obtain ⟨g1, g2⟩ := hok2
      have g1' : decide (nth tr k < l[k].low) = false := by simp at g1 ⊢; omega
      have g2' : decide (l[k].high < nth tr k) = false := by simp at g2 ⊢; omega
      have kt0 : (0 : Int) ≤ (k : Int) := by omega
      have kt1 : (k : Int) < (tr.length : Int) := by omega
      have HX := hide hx
      clear hcell hcellt hx hxt g1 g2
      obtain ⟨W', hW', hWs', hWb', hWh'⟩ := boxed x.val (.cells #[.string l[k].name, .int .i64 l[k].depth, .int .i64 l[k].low, .int .i64 l[k].high, .int .i64 l[k].length, .slice l[k].lines.A l[k].lines.l.length l[k].lines.cap, .int .i64 l[k].pipe, .int .i64 l[k].arbor, .int .i64 l[k].purchase, .int .i64 l[k].most, .int .i64 l[k].brake, .slice l[k].items.A l[k].items.l.length l[k].items.cap, .slice l[k].bricks.A l[k].bricks.l.length l[k].bricks.cap] 38)
      have hcS := fun y : After W'.heap.size W' => SetD.boxed hWh' (by omega) y
      have htS : ∀ y : After W'.heap.size W', y.val.cell? ⟨bt, offt + k, none⟩ = some (.int .i64 (nth tr k)) := fun y => htr ⟨y.val, x.below.trans ((hWb'.mono x.size).trans (y.below.mono (by have := x.size; omega)))⟩
      have hb2 : ∀ y : After W'.heap.size W', PicBox pb scale (R : Int) (C : Int) (.slice none 0 0) y.val ∧ Below W.heap.size W y.val := fun y => ⟨(HP.out.below hWb' HP.out.lt).below y.below (by have := HP.out.lt; omega), x.below.trans ((hWb'.mono x.size).trans (y.below.mono (by have := x.size; omega)))⟩
      have HW' := hide hW'
      have HB2 := hide hb2
      clear hW' hWs' hWh' hWb' hb2 hP hBw
      generalize nth tr k = t at *
      go_wp2_with fail
      rw [← HW'.out]
      refine wp_region_first W'.heap.size (by kernel_rfl) (by kernel_rfl) ?_
      repeat (go_big_quiet_step (fail))
      refine wpQuiet_nil ?_
      intro y
      go_wp2
      exact ⟨⟨k + 1, by go_num, by omega, HB2.out y⟩, by simp [intOf]; omega⟩
    · have HBw := hide hBw
      clear hP hBw
      have hc1 := HP.out.cell1
      go_wp2
      clear hc1
      have HST := hide (show ∃ rb v, SRows pb W.heap.size scale R C 0 rb v x.val ∧ Below W.heap.size W x.val from ⟨fun _ => 0, _, SRows.start HP.out hpb, HBw.out⟩)
      clear HP HBw hk
      go_loopw [67] (fun q wr => ∃ (k : Nat) (rb : Nat → Nat) (v : Value), q = .int .i64 k ∧ k ≤ R ∧ SRows pb W.heap.size scale R C k rb v wr ∧ Below W.heap.size W wr) (fun q _ => R - (intOf q).toNat)
      case atStart =>
        obtain ⟨rb, v, h1, h2⟩ := HST.out
        exact ⟨0, rb, v, rfl, Nat.zero_le _, h1, h2⟩
      case round =>
        clear HST
        obtain ⟨k, rb, v, rfl, hk, hS, hBw⟩ := hrel
        have HS := hide hS
        have HBw := hide hBw
        by_cases hkr : k < R
        · have hlt3 := hS.box.lt
          have c2 := hS.box.cell2
          have c3 := hS.box.cell3
          have hfz := hS.box.frozen 3
          have KR : ∀ (u : World) (n cap : Nat), Below wr.heap.size wr u → u.cell? ⟨n, 0, none⟩ = some (.int .u8 46) → Calls Tryd.prog 51 #[.slice (some ⟨n, 0, none⟩) 1 cap, .int .i64 (C : Int)] u fun e w2 => e = .returned (.slice (some ⟨u.heap.size, 0, none⟩) C C) ∧ w2.cell? ⟨pb, 3, none⟩ = some v ∧ w2.frozen? ⟨pb, 3, none⟩ = false ∧ pb < w2.heap.size ∧ Hid (PicBox pb scale (R : Int) (C : Int) v w2 ∧ w2.ownsRow W.heap.size 56 1 v k (rowVals rb C k)) ∧ Hid (Below W.heap.size W w2) ∧ Hid (Lib.Buf u w2 u.heap.size C (List.replicate C 46)) := fun u n cap hu hcell =>
            (repeat_any 46 ⟨n, 0, none⟩ cap C (by omega) (by omega) u hcell).mono fun e w2 ⟨he, hb⟩ => by
              have hb2 : Below wr.heap.size wr w2 := hu.trans (hb.below.mono hu.size)
              have hp2 := HS.out.box.below hb2 HS.out.box.lt
              exact ⟨he, hp2.cell3, hp2.frozen 3, hp2.lt, ⟨hp2, ownsRow_below HS.out.own hb2⟩, HBw.out.trans (hb2.mono HBw.out.size), hb⟩
          have HKR := hide KR
          have HSZ := hide (HBw.out.size)
          clear KR hS hBw
          obtain ⟨i60, hi60, hz60, hs60, hb60⟩ := info_parts infoRow60
          have HI := hide (And.intro hi60 (And.intro hz60 (And.intro hs60 hb60)))
          clear hi60 hz60 hs60 hb60
          go_wp2_with fail
          go_region_law (first
            | (refine step_append_lies _ (by rfl) (.tmp 73) (.tmp 80) 67 (by rfl) W.heap.size 56 i60 (.slice none 0 0) 1 24 Tryd.underlying67 HI.out.1 HI.out.2.1 HI.out.2.2.1 HI.out.2.2.2 rfl (by omega) v k (rowVals rb C k) (by go_simp) (ownsRow_below hown.out.2 ((Below.refl _ _).alloc (Nat.le_refl _) _)) ⟨w2.heap.size, 0, none⟩ 1 1 [.slice (some ⟨wr.heap.size + 1, 0, none⟩) C C] (by go_simp) rfl (World.news_of_block (heap_alloc_new w2 _)) (fun u hu => by simp at hu; subst hu; rfl) (by omega) (by unfold maxLen; omega) (by omega) (Nat.le_trans hbw.out.size (by simp)) (w2.heap.size + 1) (by simp) ?_; intro g cap4 w4 hown4 hgr hg hlt4; have hp4 := (hown.out.1.alloc _).grown hgr HS.out.far.1; have y3 := hp4.cell3; have yf := hp4.frozen 3)
            | (go_simp; go_at_call 51; refine (HKR.out _ _ _ (((Below.refl _ _).alloc (Nat.le_refl _) _).drew) (by simp)).mono ?_; rintro e w2 ⟨rfl, z3, zf, zl, hown, hbw, hbuf⟩))
          all_goals
            have HNX := hide (SRows.next HS.out (by omega) (((Below.refl wr.heap.size wr).alloc (Nat.le_refl _) (.cells #[.int .u8 46] 5)).drew) (by simp) (by simpa using hbuf.out) hown4 hgr hg)
            clear hgr hg hown4 hp4 y3 yf z3 zf zl hbuf hbw hown
            go_wp2
            exact ⟨⟨k + 1, _, _, by go_num, by omega, HNX.out.1, HBw.out.trans HNX.out.2⟩, by simp [intOf]; omega⟩
        · have ekr : R = k := by omega
          subst ekr
          obtain ⟨g, gcap, rfl, hcm, hSP⟩ := HS.out.done (by omega)
          obtain ⟨T, hT⟩ : ∃ T, T = wr.heap.size := ⟨_, rfl⟩
          rw [← hT] at hSP
          have c2 := hSP.box.cell2
          have hgcap : gcap ≤ 9223372036854775807 := hcm
          have HSP := hide hSP
          have HZL := hide fun s hs => HZ.out s hs
          have KF : ∀ (f : Nat → Nat → Int) (x top bottom left right : Int) (u : World), SPic pb g gcap T W.heap.size scale R C rb f u → Below W.heap.size W u → -3000000 ≤ top → top ≤ 3000000 → -3000000 ≤ bottom → bottom ≤ 3000000 → -3000000 ≤ left → left ≤ 3000000 → -3000000 ≤ right → right ≤ 3000000 →
              Calls Tryd.prog 52 #[.pointer (some ⟨pb, 0, none⟩), .int .u8 x, .int .i64 top, .int .i64 bottom, .int .i64 left, .int .i64 right] u fun e w' => e = .returned (.tuple #[]) ∧ ∃ y : After W.heap.size W, w' = y.val ∧ Hid (SPic pb g gcap T W.heap.size scale R C rb (fun r c => filled x top bottom left right r c (f r c)) y.val ∧ Above T u y.val) := fun f x top bottom left right u hu hub a1 a2 a3 a4 a5 a6 a7 a8 =>
            (fill_any pb g gcap T W.heap.size scale R C rb f x top bottom left right (by omega) (by omega) hgcap a1 a2 a3 a4 a5 a6 a7 a8 u hu).mono fun e w' ⟨he, hs, hb, ha⟩ => ⟨he, ⟨w', hub.trans hb⟩, rfl, hs, ha⟩
          have HKF := hide KF
          clear KF hS hBw hSP hcm hT
          go_wp2_with (go_at_call 52; refine (HKF.out (fun _ _ => 46) 61 0 0 0 ((C : Int) - 1) _ HSP.out HBw.out (by omega) (by omega) (by omega) (by omega) (by omega) (by omega) (by omega) (by omega)).mono ?_; rintro e w1 ⟨rfl, x1, rfl, hs1'⟩)
          have HS1 := hide (show SPic pb g gcap T W.heap.size scale R C rb (fun r c => linesTo l tr scale ((R : Int) - 1) r c 0) x1.val from hs1'.out.1.congr fun r c _ hc => by
            simp only [linesTo, List.range_zero, List.foldl_nil, baseCell, filled]
            by_cases h0 : r = 0
            · rw [if_pos (by omega), if_pos h0]
            · rw [if_neg (by omega), if_neg h0])
          clear hs1' HSP HBw HS
          clear c2
          go_loopw [12, 13, 14, 95] (fun _ _ _ v wr => ∃ k : Nat, v = .int .i64 k ∧ k ≤ l.length ∧ SPic pb g gcap T W.heap.size scale R C rb (fun r c => linesTo l tr scale ((R : Int) - 1) r c k) wr ∧ Below W.heap.size W wr) (fun _ _ _ v _ => l.length - (intOf v).toNat)
          case atStart => exact ⟨0, rfl, Nat.zero_le _, HS1.out, x1.below⟩
          case round =>
              clear HS1
              obtain ⟨k, rfl, hk, hP, hBw⟩ := hrel
              obtain ⟨x, rfl⟩ : ∃ x : After W.heap.size W, wr = x.val := After.exists_iff hBw
              have HP := hide hP
              by_cases hlt : k < l.length
              · obtain ⟨b, off, hA, hbk, hcell⟩ := HSL.out.2.2 (show 0 < l.length by omega)
                obtain ⟨bt, offt, hTA, hbt, hcellt⟩ := HTR.out.2.2 (show 0 < tr.length by have := HLN.out; omega)
                simp only at hA hTA
                subst hA
                subst hTA
                have hx : l[k]? = some l[k] := List.getElem?_eq_getElem hlt
                have he := fun x : After W.heap.size W => SetD.elem hx hbk hcell x
                have hkt : k < tr.length := by have := HLN.out; omega
                have hxt : tr[k]? = some (nth tr k) := nth_get hkt
                have htr := fun x : After W.heap.size W => intElem hxt hbt hcellt x
                have hok2 := HTK.out k hkt
                rw [trimOk, Bool.and_eq_true, setN_of hx, decide_eq_true_eq, decide_eq_true_eq] at hok2
                have hzs := HZL.out l[k] (List.getElem_mem hlt)
                have d0 := hzs.d0
                have d1 := hzs.d1
                have t0 : 0 ≤ nth tr k := Int.le_trans hzs.low hok2.1
                have t1 : nth tr k ≤ 1048576 := Int.le_trans hok2.2 hzs.high
                obtain ⟨e0, e1⟩ := quo_bound d0 d1 hs1
                obtain ⟨f0, f1⟩ := quo_bound t0 t1 hs1
                have kt0 : (0 : Int) ≤ (k : Int) := by omega
                have kt1 : (k : Int) < (tr.length : Int) := by omega
                have hxl : tr.length ≤ tcap := htc
                have hbtx : bt < x.val.heap.size := Nat.lt_of_lt_of_le hbt x.size
                have htx := htr x
                have HX := hide hx
                have HIZ := hide hzs.items
                have HIT := hide (HEA.out l[k] (List.getElem_mem hlt)).items
                clear hcell hcellt hx hxt hok2 hzs
                obtain ⟨W', hW', hWs', hWb', hWh'⟩ := boxed x.val (.cells #[.string l[k].name, .int .i64 l[k].depth, .int .i64 l[k].low, .int .i64 l[k].high, .int .i64 l[k].length, .slice l[k].lines.A l[k].lines.l.length l[k].lines.cap, .int .i64 l[k].pipe, .int .i64 l[k].arbor, .int .i64 l[k].purchase, .int .i64 l[k].most, .int .i64 l[k].brake, .slice l[k].items.A l[k].items.l.length l[k].items.cap, .slice l[k].bricks.A l[k].bricks.l.length l[k].bricks.cap] 38)
                have hcS := fun y : After W'.heap.size W' => SetD.boxed hWh' (by omega) y
                have hxy : ∀ y : After W'.heap.size W', Below W.heap.size W y.val := fun y => x.below.trans ((hWb'.mono x.size).trans (y.below.mono (by have := x.size; omega)))
                have htS : ∀ y : After W'.heap.size W', y.val.cell? ⟨bt, offt + k, none⟩ = some (.int .i64 (nth tr k)) := fun y => htr ⟨y.val, hxy y⟩
                have hTW : T ≤ W'.heap.size := Nat.le_trans hP.size (by omega)
                have hPS : ∀ y : After W'.heap.size W', SPic pb g gcap T W.heap.size scale R C rb (fun r c => linesTo l tr scale ((R : Int) - 1) r c k) y.val := fun y => (hP.below (hWb'.mono hP.size)).below (y.below.mono hTW)
                have HRW := hide fun (y : After W'.heap.size W') (z : Int) (h1 : -2097152 ≤ z) (h2 : z ≤ 2097152) => Gives.after (x := y) (Nat.le_refl _) (picRow_any pb scale (R : Int) (C : Int) z (.slice (some ⟨g, 0, none⟩) R gcap) hs1 hs2 h1 h2 (by omega) (by omega) y.val (hPS y).box)
                have HPS := hide hPS
                have HXY := hide hxy
                have HWH := hide hWh'
                have HW' := hide hW'
                clear hW' hWs' hWh' hWb' hP hBw hPS hxy
                go_wp2_with fail
                rw [← HW'.out]
                refine (HRW.out (After.refl _ W') (nth tr k) (by omega) (by omega)).mono ?_
                rintro e w2 ⟨rfl, y, rfl⟩
                go_wp2_with (go_at_call 52; refine (HKF.out _ 124 0 ((R : Int) - 1 - nth tr k / scale - 1) (l[k].depth / scale) (l[k].depth / scale) _ (HPS.out y) (HXY.out y) (by omega) (by omega) (by omega) (by omega) (by omega) (by omega) (by omega) (by omega)).mono ?_; rintro e w3 ⟨rfl, x3, rfl, hs3⟩)
                exact ⟨⟨k + 1, by go_num, by omega, hs3.out.1.congr (fun r c _ _ => by rw [linesTo_next, lineStep, setN_of HX.out]), x3.below⟩, by simp [intOf]; omega⟩
              · have ekl : k = l.length := by omega
                subst ekl
                have HPI := hide (show SPic pb g gcap T W.heap.size scale R C rb (fun r c => itemsTo l tr scale ((R : Int) - 1) r c 0) x.val from hP)
                clear hP hBw HP
                go_wp2
                go_loopw [15, 16, 18, 119] (fun _ _ _ v wr => ∃ k : Nat, v = .int .i64 k ∧ k ≤ l.length ∧ SPic pb g gcap T W.heap.size scale R C rb (fun r c => itemsTo l tr scale ((R : Int) - 1) r c k) wr ∧ Below W.heap.size W wr) (fun _ _ _ v _ => l.length - (intOf v).toNat)
                case atStart => exact ⟨0, rfl, Nat.zero_le _, HPI.out, x.below⟩
                case round =>
                  clear HPI
                  obtain ⟨k, rfl, hk, hP, hBw⟩ := hrel
                  obtain ⟨x, rfl⟩ : ∃ x : After W.heap.size W, wr = x.val := After.exists_iff hBw
                  have HP := hide hP
                  by_cases hlt : k < l.length
                  · obtain ⟨b, off, hA, hbk, hcell⟩ := HSL.out.2.2 (show 0 < l.length by omega)
                    obtain ⟨bt, offt, hTA, hbt, hcellt⟩ := HTR.out.2.2 (show 0 < tr.length by have := HLN.out; omega)
                    simp only at hA hTA
                    subst hA
                    subst hTA
                    have hx : l[k]? = some l[k] := List.getElem?_eq_getElem hlt
                    have he := fun x : After W.heap.size W => SetD.elem hx hbk hcell x
                    have hkt : k < tr.length := by have := HLN.out; omega
                    have hxt : tr[k]? = some (nth tr k) := nth_get hkt
                    have htr := fun x : After W.heap.size W => intElem hxt hbt hcellt x
                    have hok2 := HTK.out k hkt
                    rw [trimOk, Bool.and_eq_true, setN_of hx, decide_eq_true_eq, decide_eq_true_eq] at hok2
                    have hzs := HZL.out l[k] (List.getElem_mem hlt)
                    have d0 := hzs.d0
                    have d1 := hzs.d1
                    have t0 : 0 ≤ nth tr k := Int.le_trans hzs.low hok2.1
                    have t1 : nth tr k ≤ 1048576 := Int.le_trans hok2.2 hzs.high
                    obtain ⟨e0, e1⟩ := quo_bound d0 d1 hs1
                    obtain ⟨f0, f1⟩ := quo_bound t0 t1 hs1
                    have kt0 : (0 : Int) ≤ (k : Int) := by omega
                    have kt1 : (k : Int) < (tr.length : Int) := by omega
                    have hxl : tr.length ≤ tcap := htc
                    have hbtx : bt < x.val.heap.size := Nat.lt_of_lt_of_le hbt x.size
                    have htx := htr x
                    have HX := hide hx
                    have HIZ := hide hzs.items
                    have HIT := hide (HEA.out l[k] (List.getElem_mem hlt)).items
                    clear hcell hcellt hx hxt hok2 hzs
                    have HNX := hide (fun (v : Int) (r c : Nat) => show itemsStep l tr scale ((R : Int) - 1) r c v k = l[k].items.l.foldl (itemStep l[k].depth (nth tr k) scale ((R : Int) - 1) r c) v by rw [itemsStep, setN_of HX.out])
                    have hic : l[k].items.l.length ≤ l[k].items.cap := HIT.out.1
                    have hicm : l[k].items.cap ≤ 9223372036854775807 := HIT.out.2.1
                    clear HX
                    generalize l[k] = s at *
                    obtain ⟨sname, depth, low, high, length, lines, pipe, arbor, purchase, most, brake, ⟨IA, icap, il⟩, bricks⟩ := s
                    simp only at *
                    obtain ⟨W', hW', hWs', hWb', hWh'⟩ := boxed x.val (.cells #[.string sname, .int .i64 depth, .int .i64 low, .int .i64 high, .int .i64 length, .slice lines.A lines.l.length lines.cap, .int .i64 pipe, .int .i64 arbor, .int .i64 purchase, .int .i64 most, .int .i64 brake, .slice IA il.length icap, .slice bricks.A bricks.l.length bricks.cap] 38)
                    have HIN := hide (show SPic pb g gcap T W.heap.size scale R C rb (fun r c => (il.take 0).foldl (itemStep depth (nth tr k) scale ((R : Int) - 1) r c) (itemsTo l tr scale ((R : Int) - 1) r c k)) W' ∧ Below W.heap.size W W' from ⟨hP.below (hWb'.mono hP.size), x.below.trans (hWb'.mono x.size)⟩)
                    have hTx : T ≤ x.val.heap.size := hP.size
                    obtain ⟨bx, hbxe⟩ : ∃ bx, bx = x.val.heap.size := ⟨_, rfl⟩
                    rw [← hbxe] at hWh' hTx
                    have HWH := hide hWh'
                    have HW' := hide hW'
                    have HBX := hide hbxe
                    have HTR2 := hide htr
                    clear hW' hWs' hWh' hWb' hP hBw hbxe htr htx HP
                    go_wp2
                    rw [← HW'.out, ← HBX.out]
                    clear he
                    go_loopw [18, 127] (fun _ v wr => ∃ j : Nat, v = .int .i64 j ∧ j ≤ il.length ∧ SPic pb g gcap T W.heap.size scale R C rb (fun r c => (il.take j).foldl (itemStep depth (nth tr k) scale ((R : Int) - 1) r c) (itemsTo l tr scale ((R : Int) - 1) r c k)) wr ∧ Below W.heap.size W wr ∧ wr.heap[bx]? = some (.cells #[.string sname, .int .i64 depth, .int .i64 low, .int .i64 high, .int .i64 length, .slice lines.A lines.l.length lines.cap, .int .i64 pipe, .int .i64 arbor, .int .i64 purchase, .int .i64 most, .int .i64 brake, .slice IA il.length icap, .slice bricks.A bricks.l.length bricks.cap] 38 (0, 0))) (fun _ v _ => il.length - (intOf v).toNat)
                    case atStart => exact ⟨0, rfl, Nat.zero_le _, HIN.out.1, HIN.out.2, HWH.out⟩
                    case round =>
                      clear HIN HWH HW'
                      obtain ⟨j, rfl, hj, hP, hBw, hbox⟩ := hrel
                      by_cases hjt : j < il.length
                      · obtain ⟨x2, rfl⟩ : ∃ x : After W.heap.size W, wr = x.val := After.exists_iff hBw
                        obtain ⟨b2, off2, hA2, hb2, hcell2⟩ := HIT.out.2.2 (show 0 < il.length by omega)
                        simp only at hA2
                        subst hA2
                        have hx2 : il[j]? = some il[j] := List.getElem?_eq_getElem hjt
                        have he2 := fun x : After W.heap.size W => ItemD.elem hx2 hb2 hcell2 x
                        obtain ⟨⟨a0, a1⟩, ⟨b0, b1⟩, c0, c1⟩ := HIZ.out il[j] (List.getElem_mem hjt)
                        have HN2 := hide (fun (r c : Nat) => itemFold_next depth (nth tr k) scale ((R : Int) - 1) r c (itemsTo l tr scale ((R : Int) - 1) r c k) hx2)
                        clear hcell2 hx2
                        have hbz : bx < x2.val.heap.size := (Array.getElem?_eq_some_iff.1 hbox).1
                        obtain ⟨W3, hW3, hWs3, hWb3, hWh3⟩ := boxed x2.val (.cells #[.string il[j].name, .int .i64 il[j].place, .int .i64 il[j].width, .int .i64 il[j].weight, .int .i64 il[j].hang, .int .i64 il[j].front, .int .i64 il[j].back] 40)
                        have hbox3 := (hWb3.block bx hbz).trans hbox
                        have hcI := fun y : After W3.heap.size W3 => ItemD.boxed hWh3 (by omega) y
                        have hcS := fun y : After W3.heap.size W3 => SetD.boxed (s := ⟨sname, depth, low, high, length, lines, pipe, arbor, purchase, most, brake, ⟨some ⟨b2, off2, none⟩, icap, il⟩, bricks⟩) hbox3 (by omega) y
                        simp only at hcS
                        have hxy : ∀ y : After W3.heap.size W3, Below W.heap.size W y.val := fun y => x2.below.trans ((hWb3.mono x2.size).trans (y.below.mono (by have := x2.size; omega)))
                        have htS : ∀ y : After W3.heap.size W3, y.val.cell? ⟨bt, offt + k, none⟩ = some (.int .i64 (nth tr k)) := fun y => HTR2.out ⟨y.val, hxy y⟩
                        have hTW : T ≤ W3.heap.size := Nat.le_trans hP.size (by omega)
                        have hPS : ∀ y : After W3.heap.size W3, SPic pb g gcap T W.heap.size scale R C rb (fun r c => (il.take j).foldl (itemStep depth (nth tr k) scale ((R : Int) - 1) r c) (itemsTo l tr scale ((R : Int) - 1) r c k)) y.val := fun y => (hP.below (hWb3.mono hP.size)).below (y.below.mono hTW)
                        have hby : ∀ y : After W3.heap.size W3, y.val.heap[bx]? = some (.cells #[.string sname, .int .i64 depth, .int .i64 low, .int .i64 high, .int .i64 length, .slice lines.A lines.l.length lines.cap, .int .i64 pipe, .int .i64 arbor, .int .i64 purchase, .int .i64 most, .int .i64 brake, .slice (some ⟨b2, off2, none⟩) il.length icap, .slice bricks.A bricks.l.length bricks.cap] 38 (0, 0)) := fun y => (y.below.block bx (by omega)).trans hbox3
                        have HRW := hide fun (y : After W3.heap.size W3) (z : Int) (h1 : -2097152 ≤ z) (h2 : z ≤ 2097152) => Gives.after (x := y) (Nat.le_refl _) (picRow_any pb scale (R : Int) (C : Int) z (.slice (some ⟨g, 0, none⟩) R gcap) hs1 hs2 h1 h2 (by omega) (by omega) y.val (hPS y).box)
                        have HDN := hide fun (y : After W3.heap.size W3) (z : Int) (h1 : -2097152 ≤ z) (h2 : z ≤ 2097152) => Gives.after (x := y) (Nat.le_refl _) (down_any z scale h1 h2 hs1 hs2 y.val)
                        obtain ⟨p0, p1⟩ := ediv_bd (z := nth tr k - il[j].hang) (by omega) (by omega) hs1
                        obtain ⟨p2, p3⟩ := ediv_bd (z := depth - il[j].back) (by omega) (by omega) hs1
                        have r0 : 0 ≤ (depth + il[j].front) / scale := Int.ediv_nonneg (by omega) (by omega)
                        have r1 : (depth + il[j].front) / scale ≤ depth + il[j].front := Int.ediv_le_self _ (by omega)
                        have HPS := hide hPS
                        have HXY := hide hxy
                        have HBY := hide hby
                        have HW3 := hide hW3
                        clear hW3 hWs3 hWb3 hWh3 hP hBw hbox hbox3 hPS hxy hby
                        generalize nth tr k = t at *
                        go_wp2_with fail
                        rw [← HW3.out]
                        refine wp_tail_first W3.heap.size 30 (by kernel_rfl) (by kernel_rfl) ?_
                        simp only [List.take_succ_cons, List.take_zero, List.drop_succ_cons, List.drop_zero]
                        repeat (go_big_quiet_step (first | (go_at_call 53; exact HRW.out _ _ (by omega) (by omega)) | (go_at_call 54; exact HDN.out _ _ (by omega) (by omega))))
                        refine wpQuiet_nil ?_
                        intro y
                        go_wp2_with (go_at_call 52; refine (HKF.out _ 35 ((R : Int) - 1 - t / scale) ((R : Int) - 1 - (t - il[j].hang) / scale) ((depth - il[j].back) / scale) ((depth + il[j].front) / scale) _ (HPS.out y) (HXY.out y) (by omega) (by omega) (by omega) (by omega) (by omega) (by omega) (by omega) (by omega)).mono ?_; rintro e w3 ⟨rfl, x3, rfl, hs3⟩)
                        exact ⟨⟨j + 1, by go_num, by omega, hs3.out.1.congr (fun r c _ _ => by rw [HN2.out, itemStep]), x3.below, (hs3.out.2.block bx hTx).trans (HBY.out y)⟩, by simp [intOf]; omega⟩
                      · have ej : j = il.length := by omega
                        subst ej
                        have HPE := hide (show SPic pb g gcap T W.heap.size scale R C rb (fun r c => itemsTo l tr scale ((R : Int) - 1) r c (k + 1)) wr from hP.congr fun r c _ _ => by rw [itemsTo_next, HNX.out, List.take_length])
                        have HBw := hide hBw
                        clear hP hBw hbox
                        go_wp2
                        exact ⟨⟨k + 1, by go_num, by omega, HPE.out, HBw.out⟩, by simp [intOf]; omega⟩
                  · have ekl : k = l.length := by omega
                    subst ekl
                    have HPI := hide (show SPic pb g gcap T W.heap.size scale R C rb (fun r c => pipesTo l tr scale ((R : Int) - 1) r c 0) x.val from hP)
                    clear hP hBw HP
                    go_wp2
                    go_loopw [19, 20, 167] (fun _ _ v wr => ∃ k : Nat, v = .int .i64 k ∧ k ≤ l.length ∧ SPic pb g gcap T W.heap.size scale R C rb (fun r c => pipesTo l tr scale ((R : Int) - 1) r c k) wr ∧ Below W.heap.size W wr) (fun _ _ v _ => l.length - (intOf v).toNat)
                    case atStart => exact ⟨0, rfl, Nat.zero_le _, HPI.out, x.below⟩
                    case round =>
                      clear HPI
                      obtain ⟨k, rfl, hk, hP, hBw⟩ := hrel
                      obtain ⟨x, rfl⟩ : ∃ x : After W.heap.size W, wr = x.val := After.exists_iff hBw
                      have HP := hide hP
                      by_cases hlt : k < l.length
                      · obtain ⟨b, off, hA, hbk, hcell⟩ := HSL.out.2.2 (show 0 < l.length by omega)
                        obtain ⟨bt, offt, hTA, hbt, hcellt⟩ := HTR.out.2.2 (show 0 < tr.length by have := HLN.out; omega)
                        simp only at hA hTA
                        subst hA
                        subst hTA
                        have hx : l[k]? = some l[k] := List.getElem?_eq_getElem hlt
                        have he := fun x : After W.heap.size W => SetD.elem hx hbk hcell x
                        have hkt : k < tr.length := by have := HLN.out; omega
                        have hxt : tr[k]? = some (nth tr k) := nth_get hkt
                        have htr := fun x : After W.heap.size W => intElem hxt hbt hcellt x
                        have hok2 := HTK.out k hkt
                        rw [trimOk, Bool.and_eq_true, setN_of hx, decide_eq_true_eq, decide_eq_true_eq] at hok2
                        have hzs := HZL.out l[k] (List.getElem_mem hlt)
                        have d0 := hzs.d0
                        have d1 := hzs.d1
                        have t0 : 0 ≤ nth tr k := Int.le_trans hzs.low hok2.1
                        have t1 : nth tr k ≤ 1048576 := Int.le_trans hok2.2 hzs.high
                        obtain ⟨e0, e1⟩ := quo_bound d0 d1 hs1
                        obtain ⟨f0, f1⟩ := quo_bound t0 t1 hs1
                        have kt0 : (0 : Int) ≤ (k : Int) := by omega
                        have kt1 : (k : Int) < (tr.length : Int) := by omega
                        have hxl : tr.length ≤ tcap := htc
                        have hbtx : bt < x.val.heap.size := Nat.lt_of_lt_of_le hbt x.size
                        have htx := htr x
                        have HX := hide hx
                        have HIZ := hide hzs.items
                        have HIT := hide (HEA.out l[k] (List.getElem_mem hlt)).items
                        clear hcell hcellt hx hxt hok2 hzs
                        obtain ⟨W', hW', hWs', hWb', hWh'⟩ := boxed x.val (.cells #[.string l[k].name, .int .i64 l[k].depth, .int .i64 l[k].low, .int .i64 l[k].high, .int .i64 l[k].length, .slice l[k].lines.A l[k].lines.l.length l[k].lines.cap, .int .i64 l[k].pipe, .int .i64 l[k].arbor, .int .i64 l[k].purchase, .int .i64 l[k].most, .int .i64 l[k].brake, .slice l[k].items.A l[k].items.l.length l[k].items.cap, .slice l[k].bricks.A l[k].bricks.l.length l[k].bricks.cap] 38)
                        have hcS := fun y : After W'.heap.size W' => SetD.boxed hWh' (by omega) y
                        have hxy : ∀ y : After W'.heap.size W', Below W.heap.size W y.val := fun y => x.below.trans ((hWb'.mono x.size).trans (y.below.mono (by have := x.size; omega)))
                        have htS : ∀ y : After W'.heap.size W', y.val.cell? ⟨bt, offt + k, none⟩ = some (.int .i64 (nth tr k)) := fun y => htr ⟨y.val, hxy y⟩
                        have hTW : T ≤ W'.heap.size := Nat.le_trans hP.size (by omega)
                        have hPS : ∀ y : After W'.heap.size W', SPic pb g gcap T W.heap.size scale R C rb (fun r c => pipesTo l tr scale ((R : Int) - 1) r c k) y.val := fun y => (hP.below (hWb'.mono hP.size)).below (y.below.mono hTW)
                        have HRW := hide fun (y : After W'.heap.size W') (z : Int) (h1 : -2097152 ≤ z) (h2 : z ≤ 2097152) => Gives.after (x := y) (Nat.le_refl _) (picRow_any pb scale (R : Int) (C : Int) z (.slice (some ⟨g, 0, none⟩) R gcap) hs1 hs2 h1 h2 (by omega) (by omega) y.val (hPS y).box)
                        have HPS := hide hPS
                        have HXY := hide hxy
                        have HWH := hide hWh'
                        have HW' := hide hW'
                        clear hW' hWs' hWh' hWb' hP hBw hPS hxy
                        go_wp2_with fail
                        rw [← HW'.out]
                        refine wp_tail_first W'.heap.size 21 (by kernel_rfl) (by kernel_rfl) ?_
                        simp only [List.take_succ_cons, List.take_zero, List.drop_succ_cons, List.drop_zero]
                        repeat (go_big_quiet_step ((go_at_call 53; exact HRW.out _ _ (by omega) (by omega))))
                        refine wpQuiet_nil ?_
                        intro y
                        go_wp2_with (go_at_call 52; refine (HKF.out _ 43 ((R : Int) - 1 - nth tr k / scale) ((R : Int) - 1 - nth tr k / scale) (l[k].depth / scale) (l[k].depth / scale) _ (HPS.out y) (HXY.out y) (by omega) (by omega) (by omega) (by omega) (by omega) (by omega) (by omega) (by omega)).mono ?_; rintro e w3 ⟨rfl, x3, rfl, hs3⟩)
                        exact ⟨⟨k + 1, by go_num, by omega, hs3.out.1.congr (fun r c _ _ => by rw [pipesTo_next, pipeStep, setN_of HX.out]), x3.below⟩, by simp [intOf]; omega⟩
                      · have ekl : k = l.length := by omega
                        subst ekl
                        have hPC : SPic pb g gcap T W.heap.size scale R C rb (fun r c => secCell l tr scale ((R : Int) - 1) r c) x.val := hP
                        have c3 := hPC.box.cell3
                        have hpx := hPC.box.lt
                        have HJ := hide fun (u : World) (hu : Below x.val.heap.size x.val u) (n : Nat) (hn : u.cell? ⟨n, 0, none⟩ = some (.int .u8 10)) => join_rows pb g gcap T W.heap.size scale R C rb l tr ((R : Int) - 1) (by omega) (by omega) (by omega) (by omega) n u (hPC.below (hu.mono hPC.size)) hn
                        obtain ⟨R', hR'⟩ : ∃ R', R = R' + 1 := ⟨R - 1, by omega⟩
                        have hjt := join_text l tr scale ((R : Int) - 1) C R'
                        rw [← hR'] at hjt
                        have hjl : (Lib.join ((List.range R).map fun r => secRow l tr scale ((R : Int) - 1) r C) [10]).length ≤ 40200 := by
                          have h1 := congrArg List.length hjt
                          rw [secText_length, List.length_append] at h1
                          have h2 : R * (C + 1) ≤ 200 * 201 := Nat.mul_le_mul (by omega) (by omega)
                          omega
                        have HJT := hide hjt
                        clear hP hPC HP hBw hR' hjt
                        generalize Lib.join ((List.range R).map fun r => secRow l tr scale ((R : Int) - 1) r C) [10] = jl at *
                        go_wp2_with fail
                        refine (HJ.out _ ((Below.refl _ _).alloc (Nat.le_refl _) _) _ (by simp)).mono ?_
                        rintro e w5 ⟨a5, cap5, rfl, hcv, hb5⟩
                        obtain ⟨S, hS⟩ : ∃ S : ByteArray, S = ⟨jl.toArray⟩ := ⟨_, rfl⟩
                        have hSz : S.size ≤ 40200 := by rw [hS]; simpa [ByteArray.size] using hjl
                        rw [← hS] at hcv
                        have HFIN := hide (show (Value.tuple #[.string (S ++ ⟨#[10]⟩), .int .i64 0]) = .tuple #[.string ⟨(secText l tr scale ((R : Int) - 1) C R).toArray⟩, .int .i64 0] by
                          have : S ++ ⟨#[10]⟩ = ⟨(secText l tr scale ((R : Int) - 1) C R).toArray⟩ := bs_inj (by rw [bs_app, hS, bs_data, bs_data, bs_data]; simpa using HJT.out)
                          rw [this])
                        have HB5 := hide (show Below W.heap.size W w5 from (x.below.alloc x.size _).trans (hb5.mono (by have := x.size; simp; omega)))
                        clear hb5 hS HJ
                        go_wp2
                        go_ret2
                        exact Gives.mk HFIN.out (HBD.out _ HB5.out)
end Go.Proofs.YtliehhnnfpkciaaDoor
