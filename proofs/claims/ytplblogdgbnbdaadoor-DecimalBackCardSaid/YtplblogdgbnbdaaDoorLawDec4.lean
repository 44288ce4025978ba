/- loftblocklaw01.DecimalBack: the walk of the law. -/
import Derived.Test.YtplblogdgbnbdaaDoorDecAwake
import Derived.Test.YtplblogdgbnbdaaDoorDecInv
import Derived.Deep.DeepCutAuto
namespace Go.Proofs.YtplblogdgbnbdaaDoor
open Go.RowKit

theorem indexByte_le (l : List UInt8) (c : UInt8) : Lib.indexByte l c ≤ l.length := by
  induction l with
  | nil => simp [Lib.indexByte]
  | cons d l ih =>
    simp only [Lib.indexByte, List.length_cons]
    split
    · omega
    · split <;> omega
theorem natAbs_numB {v : Int} (h : v.natAbs ≤ 1152921504606846976) : numB v = true := by
  unfold numB; rw [Bool.and_eq_true, decide_eq_true_eq, decide_eq_true_eq]; omega
theorem pow_step (n : Int) (d i : Nat) (h : i < d) : n * (10 ^ (d - i) : Nat) = 10 * (n * (10 ^ (d - (i + 1)) : Nat)) := by
  obtain ⟨e, he⟩ : ∃ e, d - i = e + 1 := ⟨d - i - 1, by omega⟩
  rw [he, show d - (i + 1) = e by omega, Nat.pow_succ, Int.natCast_mul, Int.mul_comm 10, Int.mul_assoc]
  rfl
theorem fmtL_length (n : Int) (k : Nat) (h : n.natAbs ≤ 1152921504606846976) (hk : k ≤ 9) : (fmtL n k).length ≤ 40 := by
  have h1 := nDigits_le (n.natAbs / 10 ^ k) 18 (by have := Nat.div_le_self n.natAbs (10 ^ k); omega)
  unfold fmtL fmtAbs
  rw [List.length_append, List.length_append, Lib.decDigits_length]
  have h2 : (if n < 0 then [45] else [] : List UInt8).length ≤ 1 := by split <;> simp
  have h3 : (if k = 0 then [] else 46 :: lowDigits n.natAbs k : List UInt8).length ≤ 10 := by
    split
    · simp
    · simp [lowDigits_length]; omega
  omega
theorem full_bool (s : ByteArray) (k : Nat) (ix : Int) (hix : ix = Lib.indexByte (bs s) 46) (b : Bool) (h : fullB (bs s) k = b) :
    ((decide (k = 0)) || (decide (0 ≤ ix) && decide ((s.size : Int) - ix - 1 = k))) = b := by
  unfold fullB at h; rw [bs_length, ← hix] at h; exact h
set_option maxHeartbeats 16000000 in
set_option maxRecDepth 100000 in
theorem decimalBack_any (n dg more : Int) (s : ByteArray) (hg1 : 0 ≤ dg) (hg2 : dg ≤ 255) (hm1 : 0 ≤ more) (hm2 : more ≤ 255) (w : World) (ht : Tabs w) :
    Calls Tryd.prog 7 #[.int .i64 n, .int .u8 dg, .int .u8 more, .string s] w (Gives w (.bool true)) := by
  have KA := hide (Gives.first (awake01 w ht))
  have KT := hide fun y : After w.heap.size w => ht.below y.below
  clear ht
  by_cases hs : 100 < (s.size : Int)
  · go_enter Tryd.func7, Tryd.ntmps7
    go_wp2_with fail
    refine KA.out.mono ?_
    rintro e w1 ⟨rfl, y1, rfl⟩
    go_wp2
    go_ret
    exact Gives.mk rfl y1.below
  · obtain ⟨K, hK⟩ : ∃ K, K = dg % 10 := ⟨_, rfl⟩
    have hK0 : 0 ≤ K := by omega
    have hK9 : K ≤ 9 := by omega
    obtain ⟨k, hk⟩ : ∃ k : Nat, K = k := ⟨K.toNat, by omega⟩
    have HKK := hide hK
    have HK := hide hk
    clear hK hk
    go_enter Tryd.func7, Tryd.ntmps7
    go_upto_region 5 with (go_at_call 11; refine KA.out.mono ?_; rintro e w1 ⟨rfl, y1, rfl⟩)
    go_cut [9] (fun a wx => a = .int .i64 K ∧ y1.val = wx)
    case first =>
      go_wp2_with fail
      go_meet
      exact ⟨by rw [HKK.out], rfl⟩
    case rest =>
    obtain ⟨rfl, rfl⟩ := hcut
    -- the number
    have K1 : ∀ y : After w.heap.size w, ∃ (T : ByteArray) (er : Int), Calls Tryd.prog 12 #[.int .i64 n, .int .i64 K] y.val (fun e w'' => e = .returned (.tuple #[.string T, .int .i64 er]) ∧ ∃ z : After w.heap.size w, w'' = z.val) ∧ ((er = 5) ∨ (er = 0 ∧ n.natAbs ≤ 1152921504606846976 ∧ T = ⟨(fmtL n k).toArray⟩)) := by
      intro y
      rcases bool_or (numB n) with hn | hn
      · exact ⟨_, 5, Gives.after (Nat.le_refl _) (format_big n K (by unfold placesB; rw [Bool.and_eq_true, decide_eq_true_eq, decide_eq_true_eq]; omega) hn y.val), Or.inl rfl⟩
      · have hn1 : -1152921504606846976 ≤ n ∧ n ≤ 1152921504606846976 := by simpa [numB] using hn
        exact ⟨_, 0, Gives.after (Nat.le_refl _) (format_ok n K k HK.out (by omega) hn y.val (KT.out y)), Or.inr ⟨rfl, by omega, rfl⟩⟩
    obtain ⟨T, er, KF, hTe⟩ := K1 y1
    have KF := hide KF
    have HTE := hide hTe
    clear K1 hTe
    go_upto_if 38 with (go_at_call 12; refine KF.out.mono ?_; rintro e w1 ⟨rfl, y2, rfl⟩)
    go_cut [] (fun wx => ∃ z : After w.heap.size w, z.val = wx)
    case first =>
      rcases HTE.out with rfl | ⟨rfl, hna, hT⟩
      · go_wp2_with fail
        go_meet
        exact ⟨y2, rfl⟩
      · have hTb : bs T = fmtL n k := by rw [hT, bs_mk]
        have hTs : T.size ≤ 40 := by rw [hT, mk_size]; exact fmtL_length n k hna (by have := HK.out; omega)
        have hp1 : parseE (bs T) k = (n, 0) := by
          rw [hTb, parse_fmt n k k (Nat.le_refl _), Nat.sub_self, Nat.pow_zero, Nat.mul_one, if_pos hna]
          simp
        obtain ⟨J, hJ⟩ : ∃ J, J = K + more % (10 - K) := ⟨_, rfl⟩
        have hJ1 := Int.emod_nonneg more (show 10 - K ≠ 0 by omega)
        have hJ2 := Int.emod_lt_of_pos more (show 0 < 10 - K by omega)
        have hJ0 : K ≤ J := by omega
        have hJ9 : J ≤ 9 := by omega
        obtain ⟨j, hj⟩ : ∃ j : Nat, J = j := ⟨J.toNat, by omega⟩
        obtain ⟨d, hd⟩ : ∃ d, d = j - k := ⟨_, rfl⟩
        have hJd : J - K = (d : Int) := by have := HK.out; omega
        have HD := hide hJd
        have hp2 : (parseE (bs T) j = (0, 5)) ∨ (parseE (bs T) j = (n * (10 ^ d : Nat), 0) ∧ n.natAbs * 10 ^ d ≤ 1152921504606846976) := by
          rw [hTb, parse_fmt n k j (by have := HK.out; omega), ← hd]
          split
          · exact Or.inr ⟨rfl, by assumption⟩
          · exact Or.inl rfl
        have KP1 := hide fun y : After w.heap.size w => (by have := Gives.after (x := y) (Nat.le_refl _) (parse_ok T (by omega) K k HK.out (by omega) y.val (KT.out y)); rw [hp1] at this; exact this)
        have KP2 := hide fun y : After w.heap.size w => (Gives.after (x := y) (Nat.le_refl _) (parse_ok T (by omega) J j hj (by omega) y.val (KT.out y)))
        have HJ := hide hJ
        have HP2 := hide hp2
        have HNA := hide hna
        clear hT hTb hTs hp1 hJ hj hd hJd hp2 hna
        go_upto_region 11 with (go_at_call 15; refine (KP1.out y2).mono ?_; rintro e w1 ⟨rfl, y3, rfl⟩)
        go_cut [14] (fun a wx => a = .int .i64 J ∧ y3.val = wx)
        case first =>
          go_wp2_with fail
          go_meet
          exact ⟨by rw [HJ.out], rfl⟩
        case rest =>
        obtain ⟨rfl, rfl⟩ := hcut
        rcases HP2.out with h2 | ⟨h2, hle⟩
        · have KQ := hide (h2 ▸ KP2.out y3)
          clear h2
          go_wp2_with fail
          refine KQ.out.mono ?_
          rintro e w1 ⟨rfl, y4, rfl⟩
          go_wp2_with fail
          go_meet
          exact ⟨y4, rfl⟩
        · obtain ⟨Z0, hZ0⟩ : ∃ Z0 : Int, Z0 = n * (10 ^ d : Nat) := ⟨_, rfl⟩
          rw [← hZ0] at h2
          have hpd := hide (show Z0 = n * (10 ^ (d - 0) : Nat) by rw [hZ0, Nat.sub_zero])
          clear hZ0
          have KQ := hide (h2 ▸ KP2.out y3)
          clear h2
          have hb : ∀ i : Nat, -1152921504606846976 ≤ n * (10 ^ (d - i) : Nat) ∧ n * (10 ^ (d - i) : Nat) ≤ 1152921504606846976 := by
            intro i
            have h1 : n.natAbs * 10 ^ (d - i) ≤ n.natAbs * 10 ^ d := Nat.mul_le_mul_left _ (Nat.pow_le_pow_right (by decide) (by omega))
            have h2 : (n * (10 ^ (d - i) : Nat)).natAbs = n.natAbs * 10 ^ (d - i) := by rw [Int.natAbs_mul, Int.natAbs_natCast]
            omega
          have HB := hide hb
          clear hb hle
          go_wp2_with fail
          refine KQ.out.mono ?_
          rintro e w1 ⟨rfl, y4, rfl⟩
          go_wp2
          go_loopw [15, 70] (fun zv iv wr => ∃ (i : Nat) (Z : Int), iv = .int .i64 i ∧ zv = .int .i64 Z ∧ (i : Int) ≤ J - K ∧ Hid (Z = n * (10 ^ (d - i) : Nat)) ∧ ∃ x : After w.heap.size w, wr = x.val) (fun _ iv _ => (J - K).toNat - (intOf iv).toNat)
          case atStart => exact ⟨0, Z0, rfl, rfl, by have := HD.out; omega, hpd, _, rfl⟩
          case round =>
            obtain ⟨i, Z, rfl, rfl, hi, hZ, x, rfl⟩ := hrel
            have hz1 : -1152921504606846976 ≤ Z := by rw [hZ.out]; exact (HB.out i).1
            have hz2 : Z ≤ 1152921504606846976 := by rw [hZ.out]; exact (HB.out i).2
            by_cases hlt : (i : Int) < J - K
            · obtain ⟨q, hq⟩ : ∃ q : Int, q = n * (10 ^ (d - (i + 1)) : Nat) := ⟨_, rfl⟩
              have hZq : Z = 10 * q := by rw [hZ.out, hq, pow_step n d i (by have := HD.out; omega)]
              have HQ := hide hq
              have e1 : Z.tmod 10 = 0 := by rw [hZq]; exact Int.mul_tmod_right 10 q
              have e2 : Z.tdiv 10 = q := by rw [hZq]; exact Int.mul_tdiv_cancel_left q (by decide)
              have hq1 : -1152921504606846976 ≤ q := by omega
              have hq2 : q ≤ 1152921504606846976 := by omega
              clear hq hZq
              go_wp2
              exact ⟨⟨i + 1, q, by go_num, rfl, by omega, HQ, x, rfl⟩, by simp [intOf]; omega⟩
            · have hZn : Z = n := by rw [hZ.out, show d - i = 0 by have := HD.out; omega]; simp
              subst hZn
              go_wp2_with fail
              go_meet
              exact ⟨x, rfl⟩
    case rest =>
      obtain ⟨z, rfl⟩ := hcut
      clear KF HTE
      obtain ⟨v, hv⟩ : ∃ v, v = (parseE (bs s) k).1 := ⟨_, rfl⟩
      obtain ⟨f, hf⟩ : ∃ f, f = (parseE (bs s) k).2 := ⟨_, rfl⟩
      have KP := hide (by have := Gives.after (x := z) (Nat.le_refl _) (parse_ok s (by omega) K k HK.out (by omega) z.val (KT.out z)); rw [← hv, ← hf] at this; exact this)
      by_cases hf0 : f = 0
      · obtain ⟨hva, hfull⟩ := fmt_parse (bs s) k v (by rw [hv, ← hf0, hf])
        have hvn := natAbs_numB hva
        obtain ⟨U, hU⟩ : ∃ U : ByteArray, U = ⟨(fmtL v k).toArray⟩ := ⟨_, rfl⟩
        have hUs : U.size ≤ 40 := by rw [hU, mk_size]; exact fmtL_length v k hva (by have := HK.out; omega)
        have hUb : bs U = fmtL v k := by rw [hU, bs_mk]
        have KF := hide fun y : After w.heap.size w => (by have := Gives.after (x := y) (Nat.le_refl _) (format_ok v K k HK.out (by omega) hvn y.val (KT.out y)); rw [← hU] at this; exact this)
        obtain ⟨ix, hix⟩ : ∃ ix : Int, ix = Lib.indexByte (bs s) 46 := ⟨_, rfl⟩
        have KX := hide fun y : After w.heap.size w => (by have := Gives.after (x := y) (Nat.le_refl _) (indexByte_any s 46 y.val); rw [← bs_data, show (46 : Int).toNat.toUInt8 = 46 from rfl, ← hix] at this; exact this)
        have hi1 := Lib.indexByte_ge (bs s) 46
        rw [← hix] at hi1
        have hi2 : ix ≤ 200 := by
          have := indexByte_le (bs s) 46
          rw [bs_length, ← hix] at this
          omega
        have hcase : (¬ K = 0 ∧ ¬ 0 ≤ ix) ∨ (¬ K = 0 ∧ 0 ≤ ix ∧ ¬ (s.size : Int) - ix - 1 = K) ∨ ((K = 0 ∨ (¬ K = 0 ∧ 0 ≤ ix ∧ (s.size : Int) - ix - 1 = K)) ∧ (U = s ∨ (v = 0 ∧ s = ⟨#[45]⟩ ++ U))) := by
          have hb : fullB (bs s) k = true → (U = s ∨ (v = 0 ∧ s = ⟨#[45]⟩ ++ U)) := by
            intro h
            rcases hfull h with h | ⟨h1, h2⟩
            · exact Or.inl (bs_inj (by rw [hUb, h]))
            · exact Or.inr ⟨h1, bs_inj (by rw [bs_append, hUb, show bs ⟨#[45]⟩ = [45] from bs_mk [45], ← h2]; rfl)⟩
          have hbb : (K = 0 ∨ (0 ≤ ix ∧ (s.size : Int) - ix - 1 = K)) → fullB (bs s) k = true := by
            intro h
            unfold fullB
            rw [bs_length, ← hix]
            simp only [Bool.or_eq_true, Bool.and_eq_true, decide_eq_true_eq]
            have := HK.out
            rcases h with h | ⟨h1, h2⟩
            · left; omega
            · right; exact ⟨h1, by omega⟩
          by_cases h1 : K = 0
          · exact Or.inr (Or.inr ⟨Or.inl h1, hb (hbb (Or.inl h1))⟩)
          · by_cases h2 : 0 ≤ ix
            · by_cases h3 : (s.size : Int) - ix - 1 = K
              · exact Or.inr (Or.inr ⟨Or.inr ⟨h1, h2, h3⟩, hb (hbb (Or.inr ⟨h2, h3⟩))⟩)
              · exact Or.inr (Or.inl ⟨h1, h2, h3⟩)
            · exact Or.inl ⟨h1, h2⟩
        have HCASE := hide hcase
        subst hf0
        clear hv hf hva hfull hvn hU hUb hix hcase
        go_wp2_with fail
        refine KP.out.mono ?_
        rintro e w1 ⟨rfl, z1, rfl⟩
        go_wp2_with fail
        refine (KF.out z1).mono ?_
        rintro e w1 ⟨rfl, z2, rfl⟩
        go_wp2_with fail
        refine (KX.out z2).mono ?_
        rintro e w1 ⟨rfl, z3, rfl⟩
        rcases HCASE.out with ⟨h1, h2⟩ | ⟨h1, h2, h3⟩ | ⟨h1, h2⟩
        · have h1d : (K == 0) = false := by rw [beq_eq_false_iff_ne]; exact h1
          go_wp2
          go_ret
          exact Gives.mk rfl z3.below
        · have h1d : (K == 0) = false := by rw [beq_eq_false_iff_ne]; exact h1
          have h3d : ((s.size : Int) - ix - 1 == K) = false := by rw [beq_eq_false_iff_ne]; exact h3
          go_wp2
          go_ret
          exact Gives.mk rfl z3.below
        · rcases h1 with h1 | ⟨h1, h3, h4⟩
          · have h1d : (K == 0) = true := by rw [beq_iff_eq]; exact h1
            clear h1
            rcases h2 with rfl | ⟨rfl, rfl⟩
            · go_wp2
              go_ret
              exact Gives.mk rfl z3.below
            · go_wp2
              all_goals
                go_ret
                exact Gives.mk rfl z3.below
          · have h1d : (K == 0) = false := by rw [beq_eq_false_iff_ne]; exact h1
            have h4d : ((s.size : Int) - ix - 1 == K) = true := by rw [beq_iff_eq]; exact h4
            clear h1 h4
            rcases h2 with rfl | ⟨rfl, rfl⟩
            · go_wp2
              go_ret
              exact Gives.mk rfl z3.below
            · go_wp2
              all_goals
                go_ret
                exact Gives.mk rfl z3.below
      · have hv0 : v = 0 := by
          rcases parse_zero (bs s) k with h | h
          · exact absurd (hf.trans h) hf0
          · rw [hv, h]
        subst hv0
        have hfb : (f != 0) = true := by rw [bne_iff_ne]; exact hf0
        clear hf hf0
        go_wp2_with fail
        refine KP.out.mono ?_
        rintro e w1 ⟨rfl, z1, rfl⟩
        go_wp2
        go_ret
        exact Gives.mk rfl z1.below
end Go.Proofs.YtplblogdgbnbdaaDoor
