/- loftblocklaw01.DecimalHalf, DecimalLong: the walks of the laws. -/
import Derived.Test.YtplblogdgbnbdaaDoorDecAwake
namespace Go.Proofs.YtplblogdgbnbdaaDoor
open Go.RowKit

def farB (n : Int) : Bool := decide (n < -288230376151711744) || decide (288230376151711744 < n)
/-- what rounding does to a number -/
theorem round_spec (n u : Int) (h : 1 ≤ u) : -u ≤ 2 * (n - roundI n u * u) ∧ 2 * (n - roundI n u * u) < u := by
  have h1 := Int.emod_add_mul_ediv n u
  have h2 := Int.emod_nonneg n (show u ≠ 0 by omega)
  have h3 := Int.emod_lt_of_pos n (show 0 < u by omega)
  unfold roundI
  by_cases hr : u ≤ 2 * (n % u)
  · rw [if_pos hr, Int.add_mul, Int.one_mul, Int.mul_comm (n / u) u]; omega
  · rw [if_neg hr, Int.add_zero, Int.mul_comm (n / u) u]; omega
theorem round_unique (n u x : Int) (h : 1 ≤ u) (h1 : -u ≤ 2 * (n - x * u)) (h2 : 2 * (n - x * u) < u) : roundI n u = x := by
  obtain ⟨h3, h4⟩ := round_spec n u h
  have h5 : -u < (roundI n u - x) * u ∧ (roundI n u - x) * u < u := by rw [Int.sub_mul]; omega
  rcases Int.lt_trichotomy (roundI n u) x with hl | he | hg
  · have : (roundI n u - x) * u ≤ (-1) * u := Int.mul_le_mul_of_nonneg_right (by omega) (by omega)
    omega
  · exact he
  · have : 1 * u ≤ (roundI n u - x) * u := Int.mul_le_mul_of_nonneg_right (by omega) (by omega)
    omega
theorem round_mono (n m u : Int) (h : 1 ≤ u) (hnm : n ≤ m) : roundI n u ≤ roundI m u := by
  obtain ⟨h1, h2⟩ := round_spec n u h
  obtain ⟨h3, h4⟩ := round_spec m u h
  by_cases hl : roundI m u < roundI n u
  · have : 1 * u ≤ (roundI n u - roundI m u) * u := Int.mul_le_mul_of_nonneg_right (by omega) (by omega)
    rw [Int.sub_mul] at this
    omega
  · omega
theorem round_again (n u : Int) (h : 1 ≤ u) : roundI (roundI n u * u) u = roundI n u := round_unique _ _ _ h (by omega) (by omega)
theorem round_further (n u : Int) (h : 1 ≤ u) : roundI (n + u) u = roundI n u + 1 := by
  obtain ⟨h1, h2⟩ := round_spec n u h
  exact round_unique _ _ _ h (by rw [Int.add_mul]; omega) (by rw [Int.add_mul]; omega)
theorem numB_of {n : Int} (h1 : -1152921504606846976 ≤ n) (h2 : n ≤ 1152921504606846976) : numB n = true := by
  unfold numB; rw [Bool.and_eq_true, decide_eq_true_eq, decide_eq_true_eq]; exact ⟨h1, h2⟩

theorem far_any (k : Int) (w : World) : Calls Tryd.prog 22 #[.int .i64 k] w (Gives w (.bool (farB k))) := by
  go_enter Tryd.func22, Tryd.ntmps22
  go_wp2
  all_goals
    go_ret
    exact Gives.mk (congrArg Value.bool (by rw [Bool.eq_iff_iff]; simp [farB]; try omega)) (Below.refl _ _)
set_option maxHeartbeats 8000000 in
set_option maxRecDepth 100000 in
theorem decimalHalf_any (n m unit : Int) (w : World) (ht : Tabs w) : Calls Tryd.prog 8 #[.int .i64 n, .int .i64 m, .int .i64 unit] w (Gives w (.bool true)) := by
  have KA := hide (Gives.first (awake01 w ht))
  clear ht
  rcases bool_or (farB n) with hn | hn
  · rcases bool_or (farB m) with hm | hm
    · by_cases hu1 : unit < 1
      · have KN := hide fun y : After w.heap.size w => Gives.after (x := y) (Nat.le_refl _) (hn ▸ far_any n y.val)
        have KM := hide fun y : After w.heap.size w => Gives.after (x := y) (Nat.le_refl _) (hm ▸ far_any m y.val)
        clear hn hm
        go_enter Tryd.func8, Tryd.ntmps8
        go_wp2_with fail
        refine KA.out.mono ?_
        rintro e w1 ⟨rfl, y1, rfl⟩
        go_wp2_with fail
        refine (KN.out y1).mono ?_
        rintro e w1 ⟨rfl, y2, rfl⟩
        go_wp2_with fail
        refine (KM.out y2).mono ?_
        rintro e w1 ⟨rfl, y3, rfl⟩
        go_wp2
        go_ret
        exact Gives.mk rfl y3.below
      · by_cases hu2 : 1099511627776 < unit
        · have KN := hide fun y : After w.heap.size w => Gives.after (x := y) (Nat.le_refl _) (hn ▸ far_any n y.val)
          have KM := hide fun y : After w.heap.size w => Gives.after (x := y) (Nat.le_refl _) (hm ▸ far_any m y.val)
          clear hn hm
          go_enter Tryd.func8, Tryd.ntmps8
          go_wp2_with fail
          refine KA.out.mono ?_
          rintro e w1 ⟨rfl, y1, rfl⟩
          go_wp2_with fail
          refine (KN.out y1).mono ?_
          rintro e w1 ⟨rfl, y2, rfl⟩
          go_wp2_with fail
          refine (KM.out y2).mono ?_
          rintro e w1 ⟨rfl, y3, rfl⟩
          go_wp2
          go_ret
          exact Gives.mk rfl y3.below
        · have bn : -288230376151711744 ≤ n ∧ n ≤ 288230376151711744 := by
            unfold farB at hn; rw [Bool.or_eq_false_iff, decide_eq_false_iff_not, decide_eq_false_iff_not] at hn; omega
          have bm : -288230376151711744 ≤ m ∧ m ≤ 288230376151711744 := by
            unfold farB at hm; rw [Bool.or_eq_false_iff, decide_eq_false_iff_not, decide_eq_false_iff_not] at hm; omega
          have hub : unitB unit = true := by unfold unitB; rw [Bool.and_eq_true, decide_eq_true_eq, decide_eq_true_eq]; omega
          obtain ⟨d1, d2⟩ := round_spec n unit (by omega)
          obtain ⟨bn1, bn2⟩ := bn
          obtain ⟨bm1, bm2⟩ := bm
          have KN := hide fun y : After w.heap.size w => Gives.after (x := y) (Nat.le_refl _) (hn ▸ far_any n y.val)
          have KM := hide fun y : After w.heap.size w => Gives.after (x := y) (Nat.le_refl _) (hm ▸ far_any m y.val)
          have K1 := hide fun y : After w.heap.size w => Gives.after (x := y) (Nat.le_refl _) (round_ok n unit hub (numB_of (by omega) (by omega)) y.val)
          have K2 := hide fun y : After w.heap.size w => Gives.after (x := y) (Nat.le_refl _) (round_ok m unit hub (numB_of (by omega) (by omega)) y.val)
          have K3 := hide fun y : After w.heap.size w => Gives.after (x := y) (Nat.le_refl _) (round_again n unit (by omega) ▸ round_ok (roundI n unit * unit) unit hub (numB_of (by omega) (by omega)) y.val)
          have K4 := hide fun y : After w.heap.size w => Gives.after (x := y) (Nat.le_refl _) (round_further n unit (by omega) ▸ round_ok (n + unit) unit hub (numB_of (by omega) (by omega)) y.val)
          have hmono : m < n ∨ (¬ m < n ∧ roundI n unit ≤ roundI m unit) := by
            by_cases h : m < n
            · exact Or.inl h
            · exact Or.inr ⟨h, round_mono n m unit (by omega) (by omega)⟩
          obtain ⟨e1, e2, _, _⟩ := div_bounds n unit (by omega) (by omega) (by omega)
          have hx : -1152921504606846976 ≤ roundI n unit ∧ roundI n unit ≤ 1152921504606846977 := by
            unfold roundI; split <;> omega
          obtain ⟨hx1, hx2⟩ := hx
          clear hn hm hub e1 e2
          generalize roundI n unit = x at *
          generalize roundI m unit = z at *
          have p1 : -1152921504606846976 ≤ x * unit := by omega
          have p2 : x * unit ≤ 1152921504606846976 := by omega
          have p3 : -1152921504606846976 ≤ n - x * unit := by omega
          have p4 : n - x * unit ≤ 1152921504606846976 := by omega
          rcases hmono with hmono | ⟨hmono, hmono2⟩
          all_goals
            go_enter Tryd.func8, Tryd.ntmps8
            go_wp2_with fail
            refine KA.out.mono ?_
            rintro e w1 ⟨rfl, y1, rfl⟩
            go_wp2_with fail
            refine (KN.out y1).mono ?_
            rintro e w1 ⟨rfl, y2, rfl⟩
            go_wp2_with fail
            refine (KM.out y2).mono ?_
            rintro e w1 ⟨rfl, y3, rfl⟩
            go_wp2_with fail
            refine (K1.out y3).mono ?_
            rintro e w1 ⟨rfl, y4, rfl⟩
            go_wp2_with fail
            refine (K2.out y4).mono ?_
            rintro e w1 ⟨rfl, y5, rfl⟩
            go_wp2_with fail
            refine (K3.out y5).mono ?_
            rintro e w1 ⟨rfl, y6, rfl⟩
            go_wp2_with fail
            refine (K4.out y6).mono ?_
            rintro e w1 ⟨rfl, y7, rfl⟩
            go_wp2
            go_ret
            exact Gives.mk rfl y7.below
    · have KN := hide fun y : After w.heap.size w => Gives.after (x := y) (Nat.le_refl _) (hn ▸ far_any n y.val)
      have KM := hide fun y : After w.heap.size w => Gives.after (x := y) (Nat.le_refl _) (hm ▸ far_any m y.val)
      clear hn hm
      go_enter Tryd.func8, Tryd.ntmps8
      go_wp2_with fail
      refine KA.out.mono ?_
      rintro e w1 ⟨rfl, y1, rfl⟩
      go_wp2_with fail
      refine (KN.out y1).mono ?_
      rintro e w1 ⟨rfl, y2, rfl⟩
      go_wp2_with fail
      refine (KM.out y2).mono ?_
      rintro e w1 ⟨rfl, y3, rfl⟩
      go_wp2
      go_ret
      exact Gives.mk rfl y3.below
  · have KN := hide fun y : After w.heap.size w => Gives.after (x := y) (Nat.le_refl _) (hn ▸ far_any n y.val)
    clear hn
    go_enter Tryd.func8, Tryd.ntmps8
    go_wp2_with fail
    refine KA.out.mono ?_
    rintro e w1 ⟨rfl, y1, rfl⟩
    go_wp2_with fail
    refine (KN.out y1).mono ?_
    rintro e w1 ⟨rfl, y2, rfl⟩
    go_wp2
    go_ret
    exact Gives.mk rfl y2.below
theorem toks_blanks : ∀ (n f : Nat) (acc : List TokD) (line col : Int), n < f → toksF f acc (List.replicate n 32) line col = .good (acc ++ [⟨5, ⟨#[]⟩, line, col + n⟩])
  | 0, f + 1, acc, line, col, _ => by simp [toksF]
  | n + 1, f + 1, acc, line, col, h => by
    rw [List.replicate_succ, toksF]
    have : nextTk (32 :: List.replicate n 32) = .blank 1 := rfl
    rw [this]
    show toksF f acc (List.replicate n 32) line (col + (1 : Nat)) = _
    rw [toks_blanks n f acc line (col + (1 : Nat)) (by omega)]
    congr 4
    omega
set_option maxHeartbeats 2000000 in
set_option maxRecDepth 100000 in
theorem tokens_long (s : ByteArray) (hs : 262144 < (s.size : Int)) (w : World) : Calls Tryd.prog 19 #[.string s] w (Gives w (.tuple #[.slice none 0 0, .agg #[.int .i64 0, .int .i64 0], .int .i64 4])) := by
  go_enter Tryd.func19, Tryd.ntmps19
  go_wp2
  refine bodyPost_ret (v := .tuple #[.slice none 0 0, .agg #[.int .i64 0, .int .i64 0], .int .i64 4]) (by simp [results, Tryd.results19, go_sem]) rfl ?_
  exact Gives.mk rfl ((Below.refl _ _).alloc (Nat.le_refl _) _)
set_option maxHeartbeats 4000000 in
set_option maxRecDepth 100000 in
theorem decimalLong_any (c more : Int) (hc1 : 0 ≤ c) (hc2 : c ≤ 255) (hm1 : 0 ≤ more) (hm2 : more ≤ 255) (w : World) (ht : Tabs w) : Calls Tryd.prog 6 #[.int .u8 c, .int .u8 more] w (Gives w (.bool true)) := by
  have KA := hide (Gives.first (awake01 w ht))
  clear ht
  obtain ⟨T, hT⟩ : ∃ T : ByteArray, T = ⟨(Lib.repeatL (ByteArray.mk #[UInt8.ofNat c.toNat]).data.toList (262145 + more).toNat).toArray⟩ := ⟨_, rfl⟩
  have hTs : 262144 < (T.size : Int) := by rw [hT, mk_size, Lib.repeatL_length]; simp; omega
  have KR := hide fun w : World => (by
    have := repeat_any ⟨#[UInt8.ofNat c.toNat]⟩ (262145 + more).toNat w (by show 1 * _ ≤ _; omega) (by omega)
    rw [← hT, show (((262145 + more).toNat : Nat) : Int) = 262145 + more by omega] at this
    exact this : Calls Tryd.prog 20 #[.string ⟨#[UInt8.ofNat c.toNat]⟩, .int .i64 (262145 + more)] w (Gives w (.string T)))
  have KL := hide fun w : World => tokens_long T hTs w
  obtain ⟨U, hU⟩ : ∃ U : ByteArray, U = ⟨(Lib.repeatL (ByteArray.mk #[32]).data.toList 262144).toArray⟩ := ⟨_, rfl⟩
  have KR2 := hide fun w : World => (by
    have := repeat_any ⟨#[32]⟩ 262144 w (by show 1 * _ ≤ _; omega) (by omega)
    rw [← hU] at this
    exact this : Calls Tryd.prog 20 #[.string ⟨#[32]⟩, .int .i64 262144] w (Gives w (.string U)))
  have hUs : U.size = 262144 := by rw [hU, mk_size, Lib.repeatL_length]; rfl
  have hUb : bs U = List.replicate 262144 32 := by
    rw [hU, bs_mk]
    have := Lib.repeatL_replicate 32 1 262144
    rw [List.replicate_one, Nat.mul_one] at this
    exact this
  have KL2 := hide fun w : World => (by
    have := tokens_any U (by omega) w
    rw [hUb] at this
    unfold toks at this
    rw [toks_blanks _ _ _ _ _ (by rw [List.length_replicate]; exact Nat.lt_succ_self _), List.nil_append] at this
    exact this : Calls Tryd.prog 19 #[.string U] w (TokPost w (.good [⟨5, ⟨#[]⟩, 1, 1 + (262144 : Nat)⟩])))
  clear hT hTs hU hUs hUb
  go_enter Tryd.func6, Tryd.ntmps6
  go_wp2_with fail
  refine KA.out.mono ?_
  rintro e w1 ⟨rfl, y1, rfl⟩
  have kc := run_byte_string y1.val c hc1 hc2
  go_wp2_with fail
  refine (KR.out _).mono ?_
  rintro e w1 ⟨rfl, hb1⟩
  go_wp2_with fail
  refine (KL.out _).mono ?_
  rintro e w2 ⟨rfl, hb2⟩
  have hB := hide (show Below w.heap.size w w2 from (y1.below.trans ((Below.refl _ _).alloc y1.size _)).trans ((hb1.mono (by simp; have := y1.size; omega)).trans (hb2.mono (by have := hb1.size; simp at this; have := y1.size; omega))))
  clear hb1 hb2 kc
  go_wp2_with fail
  refine (KR2.out _).mono ?_
  rintro e w3 ⟨rfl, hb3⟩
  have k0 : w3.cell? ⟨w2.heap.size, 0, none⟩ = some (.int .i64 0) := (hb3.cell (p := ⟨w2.heap.size, 0, none⟩) (by simp)).trans (by simp [World.cell?_alloc_new])
  have k1 : w3.cell? ⟨w2.heap.size, 1, none⟩ = some (.int .i64 0) := (hb3.cell (p := ⟨w2.heap.size, 1, none⟩) (by simp)).trans (by simp [World.cell?_alloc_new])
  have z3 : w2.heap.size < w3.heap.size := by have := hb3.size; simp at this; omega
  have hB3 := hide (show Below w.heap.size w w3 from hB.out.trans (((Below.refl _ _).alloc hB.out.size _).trans (hb3.mono (by simp; have := hB.out.size; omega))))
  clear hb3 hB
  have K0 := hide k0
  have K1 := hide k1
  clear k0 k1
  go_wp2_with fail
  refine (KL2.out _).mono ?_
  rintro e w4 ⟨hb4, v, rfl, hown⟩
  obtain ⟨g, cap, rfl, hg, hlt⟩ := World.ownsRow.form hown (by simp)
  have k0 : w4.cell? ⟨w2.heap.size, 0, none⟩ = some (.int .i64 0) := (hb4.cell (p := ⟨w2.heap.size, 0, none⟩) z3).trans K0.out
  have k1 : w4.cell? ⟨w2.heap.size, 1, none⟩ = some (.int .i64 0) := (hb4.cell (p := ⟨w2.heap.size, 1, none⟩) z3).trans K1.out
  have z4 : w2.heap.size < w4.heap.size := by have := hb4.size; omega
  have k2 := fun o : Obj => (((Below.refl w4.heap.size w4).alloc (Nat.le_refl _) o).cell (p := ⟨w2.heap.size, 0, none⟩) z4).trans k0
  have k3 := fun o : Obj => (((Below.refl w4.heap.size w4).alloc (Nat.le_refl _) o).cell (p := ⟨w2.heap.size, 1, none⟩) z4).trans k1
  have hB4 := hide (show Below w.heap.size w w4 from hB3.out.trans (hb4.mono hB3.out.size))
  clear hown hb4 hB3
  rw [List.length_singleton]
  go_wp2
  go_ret
  exact Gives.mk rfl (hB4.out.alloc hB4.out.size _)
end Go.Proofs.YtplblogdgbnbdaaDoor
