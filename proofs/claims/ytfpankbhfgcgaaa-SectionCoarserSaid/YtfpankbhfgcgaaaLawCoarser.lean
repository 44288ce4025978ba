/- loftblocklaw32.SectionCoarser: the walk of the law. -/
import Derived.Test.YtfpankbhfgcgaaaSecEx
import Derived.Test.YtfpankbhfgcgaaaCoarseLaw
namespace Go.Proofs.Ytfpankbhfgcgaaa
open Go.RowKit

set_option maxHeartbeats 16000000 in
set_option maxRecDepth 100000 in
theorem sectionCoarser_any (h : HouseD) (hok : h.ok) (z o sc : Int) (hz0 : 0 ≤ z) (hz1 : z ≤ 4294967295) (ho0 : 0 ≤ o) (ho1 : o ≤ 4294967295) (hc0 : 0 ≤ sc) (hc1 : sc ≤ 65535) (w : World) (B : Nat) (hB : B ≤ w.heap.size) (hat : HouseD.at_ w B h) :
    Calls Try.prog 6 #[.agg #[.string h.name, .int .i64 h.height, .slice h.sets.A h.sets.l.length h.sets.cap, .slice h.roofs.A h.roofs.l.length h.roofs.cap], .int .u32 z, .int .u32 o, .int .u16 sc] w (Gives w (.bool true)) := by
  obtain ⟨W, hW, hWs, hWb, hWh⟩ := boxed w (.cells #[.string h.name, .int .i64 h.height, .slice h.sets.A h.sets.l.length h.sets.cap, .slice h.roofs.A h.roofs.l.length h.roofs.cap] 25)
  have hc := fun y : After W.heap.size W => HouseD.boxed hWh (by omega) y
  have hbd : ∀ y : After W.heap.size W, Below w.heap.size w y.val := fun y => hWb.trans (y.below.mono (by omega))
  have hat0 : HouseD.at_ W W.heap.size h := hat.to (hWb.mono hB) (by omega)
  have hatW : ∀ y : After W.heap.size W, HouseD.at_ y.val W.heap.size h := fun y => hat0.to y.below (Nat.le_refl _)
  have KA := hide fun y : After W.heap.size W => Gives.after (x := y) (Nat.le_refl _) (awake32 y.val)
  have KL := hide fun y : After W.heap.size W => Gives.after (x := y) (Nat.le_refl _) (long_any h y.val W.heap.size y.size (hatW y))
  have KS0 := fun (n : Int) (y : After W.heap.size W) => Gives.after (x := y) (Nat.le_refl _) (secSize_any h hok n y.val W.heap.size y.size (hatW y))
  have KR0 := fun (z n : Int) (y : After W.heap.size W) => Gives.after (x := y) (Nat.le_refl _) (secRow_any h hok z n y.val W.heap.size y.size (hatW y))
  have KC0 := fun (nm : ByteArray) (n : Int) (u : World) (hu : Below W.heap.size W u) => secCol_any h hok nm n u W.heap.size hu.size (hat0.to hu (Nat.le_refl _))
  obtain ⟨n, hn⟩ : ∃ n : Int, n = 1 + sc := ⟨_, rfl⟩
  have hn1 : 1 ≤ n := by omega
  have hn2 : n ≤ 65536 := by omega
  have hnr : 1 + sc = n := hn.symm
  have KG := hide fun y : After W.heap.size W => Gives.after (x := y) (Nat.le_refl _) (refSecGiven_any h hok n y.val W.heap.size y.size (hatW y))
  have hlc : h.sets.l.length ≤ h.sets.cap := hat.sets.1
  have hm : h.sets.cap ≤ 9223372036854775807 := hat.sets.2.1
  have HSL := hide hat0.sets
  have hwW : w.heap.size < W.heap.size := by omega
  have HW := hide hW
  have HBD := hide hbd
  clear hn hW hWs hWh hWb hbd hat hatW hat0
  cases hsm : houseSmall h 8
  · go_enter Try.func6, Try.ntmps6
    go_wp2_with fail
    rw [← HW.out]
    refine (KA.out (After.refl _ W)).mono ?_
    rintro e w1 ⟨rfl, y1, rfl⟩
    go_wp2_with (go_at_call 16; refine (KL.out _).mono ?_; rintro e w2 ⟨rfl, y2, rfl⟩)
    go_ret
    exact Gives.mk rfl (HBD.out _)
  · by_cases h0 : secE h n = 0
    · obtain ⟨hg, _⟩ := secE_zero h0
      obtain ⟨hh, _, _⟩ := givenE_zero hg
      obtain ⟨t1, t2⟩ := height_of_ok hh
      have h02 := secE_two hn2 h0
      obtain ⟨a1, a2, a3, a4⟩ := rows_bound h0
      have hr2 := secRows_two h hn1
      have hc2 := secCols_two h hn1
      have e1 : secSizeE h n = .tuple #[.int .i64 (secRows h n), .int .i64 (secCols h n), .int .i64 0] := by rw [secSizeE, if_pos h0]
      have e2 : secSizeE h (2 * n) = .tuple #[.int .i64 (secRows h (2 * n)), .int .i64 (secCols h (2 * n)), .int .i64 0] := by rw [secSizeE, if_pos h02]
      have KS1 := KS0 n
      rw [e1] at KS1
      have KS2 := KS0 (2 * n)
      rw [e2, hr2, hc2] at KS2
      have ha0 : 0 ≤ z % (h.height + 1) := Int.emod_nonneg _ (by omega)
      have ha1 : z % (h.height + 1) < h.height + 1 := Int.emod_lt_of_pos _ (by omega)
      have hb0 : 0 ≤ o % (h.height + 1) := Int.emod_nonneg _ (by omega)
      have hb1 : o % (h.height + 1) < h.height + 1 := Int.emod_lt_of_pos _ (by omega)
      have KR1 := KR0 (z % (h.height + 1)) n
      have KR2 := KR0 (z % (h.height + 1)) (2 * n)
      have KR3 := KR0 (o % (h.height + 1)) n
      rw [show secRowE h (z % (h.height + 1)) n = .tuple #[.int .i64 (h.height / n - z % (h.height + 1) / n), .int .i64 0] by rw [secRowE, if_pos h0, if_pos (by omega)]] at KR1
      rw [show secRowE h (z % (h.height + 1)) (2 * n) = .tuple #[.int .i64 (h.height / n / 2 - z % (h.height + 1) / n / 2), .int .i64 0] by rw [secRowE, if_pos h02, if_pos (by omega), div_two _ hn1, div_two _ hn1]] at KR2
      rw [show secRowE h (o % (h.height + 1)) n = .tuple #[.int .i64 (h.height / n - o % (h.height + 1) / n), .int .i64 0] by rw [secRowE, if_pos h0, if_pos (by omega)]] at KR3
      have hle1 : o % (h.height + 1) ≤ z % (h.height + 1) → o % (h.height + 1) / n ≤ z % (h.height + 1) / n := fun h => Int.ediv_le_ediv (by omega) h
      have hle2 : z % (h.height + 1) ≤ o % (h.height + 1) → z % (h.height + 1) / n ≤ o % (h.height + 1) / n := fun h => Int.ediv_le_ediv (by omega) h
      have qa0 : 0 ≤ z % (h.height + 1) / n := Int.ediv_nonneg ha0 (by omega)
      have qb0 : 0 ≤ o % (h.height + 1) / n := Int.ediv_nonneg hb0 (by omega)
      have qa1 : z % (h.height + 1) / n ≤ h.height / n := Int.ediv_le_ediv (by omega) (by omega)
      have qb1 : o % (h.height + 1) / n ≤ h.height / n := Int.ediv_le_ediv (by omega) (by omega)
      have hrr : secRows h n = h.height / n + 1 := rfl
      have hcol : ∀ (k : Nat) (s : SetD), h.sets.l[k]? = some s → secColE h s.name n = .tuple #[.int .i64 (s.depth / n), .int .i64 0] ∧ secColE h s.name (2 * n) = .tuple #[.int .i64 (s.depth / n / 2), .int .i64 0] := fun k s hs => by
        have hf := find_self hh hs
        rw [secColE, secColE, if_pos h0, if_pos h02, hf, if_neg (by omega), if_neg (by omega), Int.toNat_natCast, depthAt_of hs, div_two _ hn1]
        exact ⟨rfl, rfl⟩
      have HCOL := hide hcol
      have HZS := hide (secSet_of_ok hh)
      have HKC := hide KC0
      have KS1 := hide KS1
      have KS2 := hide KS2
      have KR1 := hide KR1
      have KR2 := hide KR2
      have KR3 := hide KR3
      rw [h0] at KG
      rw [hrr] at KS1 KS2 a1 a2
      clear KS0 KR0 KC0 hcol e1 e2 hr2 hc2 h0 h02 hg hh hrr
      generalize secCols h n = CC at *
      obtain ⟨name, height, ⟨A, cap, l⟩, roofs⟩ := h
      simp only at *
      go_enter Try.func6, Try.ntmps6
      go_wp2_with fail
      rw [← HW.out]
      refine (KA.out (After.refl _ W)).mono ?_
      rintro e w1 ⟨rfl, y1, rfl⟩
      go_wp2_with (first
        | (go_at_call 16; refine (KL.out _).mono ?_; rintro e w2 ⟨rfl, y2, rfl⟩)
        | (go_at_call 19; refine (KG.out _).mono ?_; rintro e w2 ⟨rfl, y3, rfl⟩))
      refine wp_region_after y3 (by kernel_rfl) (by kernel_rfl) ?_
      repeat (go_big_quiet_step (fail))
      refine wpQuiet_nil ?_
      intro y4
      generalize z % (height + 1) = a at *
      generalize o % (height + 1) = b at *
      generalize height / n = hq at *
      generalize a / n = an at *
      generalize b / n = bn at *
      have hq0 : 0 ≤ hq := by omega
      obtain ⟨r1, hr1⟩ : ∃ r, r = hq + 1 := ⟨_, rfl⟩
      obtain ⟨r2, hr2⟩ : ∃ r, r = (r1 - 1) / 2 + 1 := ⟨_, rfl⟩
      obtain ⟨c2, hc2⟩ : ∃ r, r = (CC - 1) / 2 + 1 := ⟨_, rfl⟩
      obtain ⟨P, hP⟩ : ∃ r, r = hq - an := ⟨_, rfl⟩
      obtain ⟨Q, hQ⟩ : ∃ r, r = hq / 2 - an / 2 := ⟨_, rfl⟩
      obtain ⟨L, hL⟩ : ∃ r, r = hq - bn := ⟨_, rfl⟩
      rw [← hr1] at KS1 KS2
      rw [← hr2, ← hc2] at KS2
      rw [← hP] at KR1
      rw [← hQ] at KR2
      rw [← hL] at KR3
      have g1 : (r2 != (r1 - 1) / 2 + 1) = false := by rw [hr2]; simp
      have g2 : (c2 != (CC - 1) / 2 + 1) = false := by rw [hc2]; simp
      have g3 : (r2 - 1 - Q != (r1 - 1 - P) / 2) = false := by rw [bne_eq_false_iff_eq]; omega
      have n1 : 0 ≤ r1 - 1 := by omega
      have n2 : 0 ≤ r1 - 1 - P := by omega
      have n3 : 0 ≤ CC - 1 := by omega
      have b1 : 0 ≤ Q ∧ Q ≤ 1048576 := by omega
      have b2 : 0 ≤ P ∧ P ≤ 1048576 := by omega
      have b3 : 0 ≤ L ∧ L ≤ 1048576 := by omega
      have b4 : 1 ≤ r1 ∧ r1 ≤ 200 := by omega
      have b6 : 1 ≤ CC ∧ CC ≤ 200 := by omega
      have b7 : 1 ≤ c2 ∧ c2 ≤ 200 := by omega
      have b5 : 1 ≤ r2 ∧ r2 ≤ 200 := by omega
      have l1 : b ≤ a → ¬ L < P := fun h => by have := hle1 h; omega
      have l2 : a ≤ b → ¬ P < L := fun h => by have := hle2 h; omega
      have HL1 := hide l1
      have HL2 := hide l2
      clear hle1 hle2 l1 l2 hr1 hr2 hc2 hP hQ hL hq0 qa0 qb0 qa1 qb1 ha0 ha1 hb0 hb1 a1 a2 a3 a4 t1 t2 hz0 hz1 ho0 ho1
      obtain ⟨b1, b1'⟩ := b1
      obtain ⟨b2, b2'⟩ := b2
      obtain ⟨b3, b3'⟩ := b3
      obtain ⟨b4, b4'⟩ := b4
      obtain ⟨b5, b5'⟩ := b5
      obtain ⟨b6, b6'⟩ := b6
      obtain ⟨b7, b7'⟩ := b7
      have hcs : (∃ x1 x2 : Bool, decide (b ≤ a) = x1 ∧ decide (a ≤ b) = x2) := ⟨_, _, rfl, rfl⟩
      rcases (show (b ≤ a ∧ a ≤ b) ∨ (b ≤ a ∧ ¬ a ≤ b) ∨ (¬ b ≤ a ∧ a ≤ b) by omega) with ⟨u1, u2⟩ | ⟨u1, u2⟩ | ⟨u1, u2⟩
      all_goals
        have d1 : decide (b ≤ a) = decide (b ≤ a) := rfl
        have d2 : decide (a ≤ b) = decide (a ≤ b) := rfl
        (first | rw [decide_eq_true u1] at d1 | rw [decide_eq_false u1] at d1)
        clear d1 d2 hcs
        (first | have v1 := HL1.out u1 | skip)
        (first | have v2 := HL2.out u2 | skip)
        go_wp2_with fail
        refine (KS1.out _).mono ?_
        rintro e w2 ⟨rfl, y5, rfl⟩
        go_wp2_with fail
        refine (KS2.out _).mono ?_
        rintro e w2 ⟨rfl, y6, rfl⟩
        go_wp2_with fail
        refine (KR1.out _).mono ?_
        rintro e w2 ⟨rfl, y7, rfl⟩
        go_wp2_with fail
        refine (KR2.out _).mono ?_
        rintro e w2 ⟨rfl, y8, rfl⟩
        go_wp2_with fail
        refine (KR3.out _).mono ?_
        rintro e w2 ⟨rfl, y9, rfl⟩
        clear KS1 KS2 KR1 KR2 KR3 HL1 HL2
        go_wp2
        clear g1 g2 g3 u1 u2 b1 b2 b3 b4 b5 b6 b7 b1' b2' b3' b4' b5' b6' b7'
        (first | clear v1 | skip)
        (first | clear v2 | skip)
        go_loopw [25, 26, 27, 28, 29, 161] (fun _ _ _ _ _ v wr => ∃ k : Nat, v = .int .i64 k ∧ k ≤ l.length ∧ ∃ x : After W.heap.size W, wr = x.val) (fun _ _ _ _ _ v _ => l.length - (intOf v).toNat)
        case atStart => exact ⟨0, rfl, Nat.zero_le _, _, rfl⟩
        case round =>
          obtain ⟨k, rfl, hk, x, rfl⟩ := hrel
          by_cases hlt : k < l.length
          · obtain ⟨bb, off, hA, hbk, hcell⟩ := HSL.out.2.2 (show 0 < l.length by omega)
            simp only at hA
            subst hA
            have hx : l[k]? = some l[k] := List.getElem?_eq_getElem hlt
            have he := fun x : After W.heap.size W => SetD.elem hx hbk hcell x
            obtain ⟨c1, c2'⟩ := HCOL.out k l[k] hx
            have d0 := (HZS.out l[k] (List.getElem_mem hlt)).d0
            have d1 := (HZS.out l[k] (List.getElem_mem hlt)).d1
            obtain ⟨e0, e1⟩ := quo_bound d0 d1 hn1
            obtain ⟨W', hW', hWs', hWb', hWh'⟩ := boxed x.val (.cells #[.string l[k].name, .int .i64 l[k].depth, .int .i64 l[k].low, .int .i64 l[k].high, .int .i64 l[k].length, .slice l[k].lines.A l[k].lines.l.length l[k].lines.cap, .int .i64 l[k].pipe, .int .i64 l[k].arbor, .int .i64 l[k].purchase, .int .i64 l[k].most, .int .i64 l[k].brake, .slice l[k].items.A l[k].items.l.length l[k].items.cap, .slice l[k].bricks.A l[k].bricks.l.length l[k].bricks.cap] 51)
            have hcS := fun y : After W'.heap.size W' => SetD.boxed hWh' (by omega) y
            have hxy : ∀ y : After W'.heap.size W', Below W.heap.size W y.val := fun y => x.below.trans ((hWb'.mono x.size).trans (y.below.mono (by have := x.size; omega)))
            have hcH : ∀ y : After W'.heap.size W', y.val.cell? ⟨w.heap.size, 0, none⟩ = some (.string name) ∧ y.val.cell? ⟨w.heap.size, 1, none⟩ = some (.int .i64 height) ∧ y.val.cell? ⟨w.heap.size, 2, none⟩ = some (.slice (some ⟨bb, off, none⟩) l.length cap) ∧ y.val.cell? ⟨w.heap.size, 3, none⟩ = some (.slice roofs.A roofs.l.length roofs.cap) := fun y => hc ⟨y.val, hxy y⟩
            have KC1 := hide fun y : After W'.heap.size W' => Gives.after (x := y) (Nat.le_refl _) (HKC.out l[k].name n y.val (hxy y))
            have KC2 := hide fun y : After W'.heap.size W' => Gives.after (x := y) (Nat.le_refl _) (HKC.out l[k].name (2 * n) y.val (hxy y))
            rw [c1] at KC1
            rw [c2'] at KC2
            have hwx : w.heap.size < x.val.heap.size := Nat.lt_of_lt_of_le hwW x.size
            have HXY := hide hxy
            have HW' := hide hW'
            clear hW' hWs' hWh' hWb' hxy hcell hx c1 c2'
            go_wp2_with fail
            rw [← HW'.out]
            refine (KC1.out (After.refl _ W')).mono ?_
            rintro e w2 ⟨rfl, z1, rfl⟩
            go_wp2_with fail
            refine (KC2.out z1).mono ?_
            rintro e w3 ⟨rfl, z2, rfl⟩
            go_wp2
            exact ⟨⟨k + 1, by go_num, by omega, ⟨_, HXY.out z2⟩, rfl⟩, by simp [intOf]; omega⟩
          · go_wp2
            go_ret
            exact Gives.mk rfl (HBD.out _)
    · have h1 : (secE h n != 0) = true := by rw [bne_iff_ne]; exact h0
      clear KS0 KR0 KC0
      generalize secE h n = E at *
      go_enter Try.func6, Try.ntmps6
      go_wp2_with fail
      rw [← HW.out]
      refine (KA.out (After.refl _ W)).mono ?_
      rintro e w1 ⟨rfl, y1, rfl⟩
      go_wp2_with (first
        | (go_at_call 16; refine (KL.out _).mono ?_; rintro e w2 ⟨rfl, y2, rfl⟩)
        | (go_at_call 19; refine (KG.out _).mono ?_; rintro e w2 ⟨rfl, y6, rfl⟩))
      go_ret
      exact Gives.mk (by simp) (HBD.out _)
end Go.Proofs.Ytfpankbhfgcgaaa
