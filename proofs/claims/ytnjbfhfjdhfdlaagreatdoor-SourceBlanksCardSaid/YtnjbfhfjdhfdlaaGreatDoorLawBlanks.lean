/- loftblocklaw31.SourceBlanks: the walk of the law. -/
import Derived.Test.YtnjbfhfjdhfdlaaGreatDoorSrcRepl
namespace Go.Proofs.YtnjbfhfjdhfdlaaGreatDoor
open Go.RowKit

theorem bs_app (a b : ByteArray) : bs (a ++ b) = bs a ++ bs b := by simp [bs_data, ByteArray.data_append]
set_option maxRecDepth 100000 in
set_option maxHeartbeats 8000000 in
theorem sourceBlanks_any (s cm : ByteArray) (w : World) (ht : TabsS w) : Calls Tryz.prog 7 #[.string s, .string cm] w (Gives w (.bool true)) := by
  have KA := hide (Gives.first (awake31_any w ht))
  have HT := hide ht
  clear ht
  go_enter Tryz.func7, Tryz.ntmps7
  go_wp2_with fail
  refine KA.out.mono ?_
  rintro e w' ⟨rfl, y, rfl⟩
  have hby := y.below
  by_cases h1 : (2000 : Int) < (s.size : Int)
  · go_wp2_with fail
    go_ret
    exact Gives.mk rfl y.below
  by_cases h2 : (30 : Int) < (cm.size : Int)
  · go_wp2_with fail
    go_ret
    exact Gives.mk rfl y.below
  have KC := Tryz.strings_Contains_one cm 10 y.val
  cases hc : decide (0 ≤ Lib.indexByte cm.data.toList 10)
  · rw [hc] at KC
    have hcm := no_newline (of_decide_eq_false hc)
    have HCM := hide hcm
    have HKC := hide KC
    obtain ⟨⟨X1, p1, k1⟩, hX1⟩ : ∃ X, srcE (toks (bs s)) = X := ⟨_, rfl⟩
    have HX1 := hide hX1
    have P1 := parse_any s (by omega) y.val (HT.out.below y.below)
    rw [hX1] at P1
    have HP1 := hide P1
    clear hc KC hcm hX1 P1
    go_wp2_with (go_at_call 24; refine HKC.out.mono ?_; rintro e w' ⟨rfl, rfl⟩)
    refine HP1.out.mono ?_
    rintro e w1 ⟨hb1, a1, s1, rfl, hA1, hS1, hp1, hq1, -, -, -⟩
    obtain ⟨V1, hV1, hs1, hv1, hh1, hh2, -⟩ := three_boxed w1 (.cells #[.string a1.name, .int .i64 a1.height, .slice a1.sets.A a1.sets.l.length a1.sets.cap, .slice a1.roofs.A a1.roofs.l.length a1.roofs.cap] 25 (0, 0)) (.cells #[.slice s1.cues.A s1.cues.l.length s1.cues.cap, .slice s1.apart.A s1.apart.l.length s1.apart.cap] 29 (0, 0)) (.cells #[.int .i64 p1.1, .int .i64 p1.2] 40 (0, 0))
    have HV1 := hide hV1
    have hbV1 : Below w.heap.size w V1 := y.below.trans ((hb1.mono y.size).trans (hv1.mono (by have := hb1.size; have := y.size; omega)))
    clear HP1 hV1
    go_wp2_with fail
    rw [← HV1.out]
    obtain ⟨m, hm⟩ := (HT.out.below hbV1).1.2.2
    have hnew : (({ data := #[32, 9, 32, 35, 32] } : ByteArray) ++ cm ++ { data := #[10, 10, 32, 32, 32, 10] }).data.toList = sepL (bs cm) := by
      rw [← bs_data, bs_app, bs_app]
      simp [sepL, bs_data]
    have hcl : (bs cm).length = cm.size := bs_length cm
    have hsl : (bs s).length = s.size := bs_length s
    have KR := Tryz.strings_ReplaceAll s ⟨#[10]⟩ ({ data := #[32, 9, 32, 35, 32] } ++ cm ++ { data := #[10, 10, 32, 32, 32, 10] }) m V1 (by omega) hm (by decide) (by
      have e1 : (({ data := #[32, 9, 32, 35, 32] } : ByteArray) ++ cm ++ { data := #[10, 10, 32, 32, 32, 10] }).size ≤ 41 := by
        rw [← bs_length, bs_data, hnew]
        simp [sepL, hcl]; omega
      have e2 : Lib.countB s ⟨#[10]⟩ ≤ 2000 := by
        have h0 : Lib.countB s ⟨#[10]⟩ = (bs s).count 10 := by rw [bs_data]; exact Lib.count_one 10 s.data.toList
        have h1 := List.count_le_length (a := (10 : UInt8)) (l := bs s)
        omega
      have e3 := Nat.mul_le_mul e2 e1
      omega)
    rw [hnew, ← bs_data, show (({ data := #[10] } : ByteArray).data.toList) = [10] from rfl, replaceAll_repl] at KR
    obtain ⟨R, hR, hRb⟩ : ∃ R : ByteArray, R = ⟨(replL (bs cm) (bs s)).toArray⟩ ∧ bs R = replL (bs cm) (bs s) := ⟨_, rfl, by rw [bs_data]⟩
    rw [← hR] at KR
    obtain ⟨T, hT⟩ : ∃ T : ByteArray, T = { data := #[10, 35] } ++ cm ++ { data := #[10] } ++ R := ⟨_, rfl⟩
    have hTb : bs T = wideL (bs cm) (bs s) := by
      rw [hT, bs_app, bs_app, bs_app, hRb]
      simp [wideL, bs_data]
    have hTs : T.size ≤ 262144 := by
      have h := congrArg List.length hTb
      have h3 := replL_len (bs cm) (bs s)
      have h4 : (bs s).length * ((bs cm).length + 11) ≤ 2000 * 41 := Nat.mul_le_mul (by omega) (by omega)
      rw [bs_length, wideL] at h
      simp only [List.length_cons, List.length_append] at h
      omega
    have hRs : (R.size : Int) ≤ 100000 := by
      have h3 := replL_len (bs cm) (bs s)
      have h4 : (bs s).length * ((bs cm).length + 11) ≤ 2000 * 41 := Nat.mul_le_mul (by omega) (by omega)
      rw [← bs_length R, hRb]
      omega
    have hnb : ¬ 9223372036854775807 < 2 + cm.size + 1 + R.size := by omega
    have HKR := hide KR
    have hbl := srcE_blanks (cm := bs cm) (l := bs s) (by rw [bs_data]; exact HCM.out)
    rw [← hTb, HX1.out] at hbl
    obtain ⟨⟨X2, p2, k2⟩, hX2⟩ : ∃ X, srcE (toks (bs T)) = X := ⟨_, rfl⟩
    rw [hX2] at hbl
    simp only at hbl
    obtain ⟨rfl, rfl⟩ := hbl
    have HTT := hide hT
    have HX2 := hide hX2
    have HTS := hide hTs
    clear KR hnew hR hRb hT hTb hTs hX2 hm
    go_wp2_with fail
    refine HKR.out.mono ?_
    rintro e w2 ⟨rfl, hb2⟩
    have hbw2 : Below w.heap.size w w2 := hbV1.trans (hb2.mono hbV1.size)
    have P2 := parse_any T HTS.out w2 (HT.out.below hbw2)
    rw [HX2.out] at P2
    have HP2 := hide P2
    clear P2 HKR
    go_wp2_with fail
    rw [← HTT.out]
    refine HP2.out.mono ?_
    rintro e w3 ⟨hb3, a2, s2, rfl, hA2, hS2, hp2, hq2, -, -, -⟩
    obtain ⟨V2, hV2, hs2, hv2, hh3, hh4, -⟩ := three_boxed w3 (.cells #[.string a2.name, .int .i64 a2.height, .slice a2.sets.A a2.sets.l.length a2.sets.cap, .slice a2.roofs.A a2.roofs.l.length a2.roofs.cap] 25 (0, 0)) (.cells #[.slice s2.cues.A s2.cues.l.length s2.cues.cap, .slice s2.apart.A s2.apart.l.length s2.apart.cap] 29 (0, 0)) (.cells #[.int .i64 p2.1, .int .i64 p2.2] 40 (0, 0))
    have z1 := hb1.size
    have z2 := hb2.size
    have z3 := hb3.size
    have hbV2 : Below V1.heap.size V1 V2 := hb2.trans ((hb3.mono z2).trans (hv2.mono (by omega)))
    have g1 : V2.heap[w1.heap.size]? = _ := (hbV2.block w1.heap.size (by omega)).trans hh1
    have g2 : V2.heap[w1.heap.size + 1]? = _ := (hbV2.block (w1.heap.size + 1) (by omega)).trans hh2
    have zV := hbV2.size
    have f1 := fun y : After V2.heap.size V2 => HouseD.boxed (h := a1) g1 (by omega) y
    have f2 := fun y : After V2.heap.size V2 => SheetD.boxed (s := s1) g2 (by omega) y
    have f3 := fun y : After V2.heap.size V2 => HouseD.boxed (h := a2) hh3 (by omega) y
    have f4 := fun y : After V2.heap.size V2 => SheetD.boxed (s := s2) hh4 (by omega) y
    have f0 := And.intro (f1 (After.refl _ _)) (And.intro (f2 (After.refl _ _)) (And.intro (f3 (After.refl _ _)) (f4 (After.refl _ _))))
    simp only [After.refl] at f0
    have hA1' := (hA1.to hv1 (show w1.heap.size ≤ V1.heap.size by omega)).to hbV2 (show V1.heap.size ≤ V2.heap.size by omega)
    have hS1' := (hS1.to hv1 (show w1.heap.size ≤ V1.heap.size by omega)).to hbV2 (show V1.heap.size ≤ V2.heap.size by omega)
    have hA2' := hA2.to hv2 (show w3.heap.size ≤ V2.heap.size by omega)
    have hS2' := hS2.to hv2 (show w3.heap.size ≤ V2.heap.size by omega)
    have KH := hide (Gives.first (sameHouse_any a1 a2 (hp1.trans hp2.symm) V2 V2.heap.size (Nat.le_refl _) hA1' hA2'))
    have KS := hide (fun y : After V2.heap.size V2 => Gives.after (x := y) (Nat.le_refl _) (sameSheet_any s1 s2 (hq1.trans hq2.symm) y.val V2.heap.size y.size (hS1'.to y.below (Nat.le_refl _)) (hS2'.to y.below (Nat.le_refl _))))
    have HBW := hide (show Below w.heap.size w V2 from hbw2.trans ((hb3.mono hbw2.size).trans (hv2.mono (by have := hbw2.size; omega))))
    have HV2 := hide hV2
    clear HP2 hV2 hA1' hS1' hA2' hS2' hA1 hS1 hA2 hS2 hp1 hq1 hp2 hq2 hh1 hh2 hh3 hh4 g1 g2 hs1 hs2
    go_upto_region 9 with fail
    rw [← HV2.out]
    go_wp2_with (first
      | (go_at_call 18; refine KH.out.mono ?_; rintro e w' ⟨rfl, y1, rfl⟩; have hfy := And.intro (f2 y1) (f4 y1))
      | (go_at_call 19; refine (KS.out y1).mono ?_; rintro e w' ⟨rfl, y2, rfl⟩))
    go_ret
    exact Gives.mk rfl (HBW.out.trans (y2.below.mono HBW.out.size))
  · rw [hc] at KC
    have HKC := hide KC
    go_wp2_with (go_at_call 24; refine HKC.out.mono ?_; rintro e w' ⟨rfl, rfl⟩)
    go_ret
    exact Gives.mk rfl y.below
end Go.Proofs.YtnjbfhfjdhfdlaaGreatDoor
