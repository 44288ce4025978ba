/- loftblockref02.Gcd on numbers of one part. -/
import Derived.Test.YtgamhdbcejkllaaGreatDoorRatioGcd
import Derived.Deep.RegionLaw
import Derived.Deep.RegionWith
namespace Go.Proofs.YtgamhdbcejkllaaGreatDoor
open Go.RowKit

/-- the two numbers lie in their blocks -/
structure GSt (w : World) (a b : Nat) (wr : World) : Prop where
  bel : Below w.heap.size w wr
  size : w.heap.size + 3 ≤ wr.heap.size
  ca : wr.heap[w.heap.size]? = some (.cells #[.int .u64 0, .int .u64 (a : Int)] 136 (0, 0))
  cb : wr.heap[w.heap.size + 1]? = some (.cells #[.int .u64 0, .int .u64 (b : Int)] 136 (0, 0))
  cr : wr.heap[w.heap.size + 1 + 1]? = some (.cells #[.int .u64 0, .int .u64 0] 136 (0, 0))
theorem GSt.more {w wr w' : World} {a b : Nat} (h : GSt w a b wr) (hb : Below wr.heap.size wr w') : GSt w a b w' := by
  have hs := h.size
  exact ⟨h.bel.trans (hb.mono (by omega)), by have := hb.size; omega, (hb.block _ (by omega)).trans h.ca, (hb.block _ (by omega)).trans h.cb, (hb.block _ (by omega)).trans h.cr⟩
theorem GSt.setA {w wr : World} {a b : Nat} (h : GSt w a b wr) (a' : Nat) : GSt w a' b ((wr.setCell ⟨w.heap.size, 0, none⟩ (.int .u64 0)).setCell ⟨w.heap.size, 1, none⟩ (.int .u64 (a' : Int))) := by
  have hs := h.size
  refine ⟨(h.bel.setCell (p := ⟨w.heap.size, 0, none⟩) (Nat.le_refl _) _).setCell (p := ⟨w.heap.size, 1, none⟩) (Nat.le_refl _) _, by simpa using hs, two_set h.ca, ?_, ?_⟩
  · rw [RowKit.Below.heap_setCell _ _ _ _ (by simp), RowKit.Below.heap_setCell _ _ _ _ (by simp)]; exact h.cb
  · rw [RowKit.Below.heap_setCell _ _ _ _ (by simp; omega), RowKit.Below.heap_setCell _ _ _ _ (by simp; omega)]; exact h.cr
theorem GSt.setB {w wr : World} {a b : Nat} (h : GSt w a b wr) (b' : Nat) : GSt w a b' ((wr.setCell ⟨w.heap.size + 1, 0, none⟩ (.int .u64 0)).setCell ⟨w.heap.size + 1, 1, none⟩ (.int .u64 (b' : Int))) := by
  have hs := h.size
  refine ⟨(h.bel.setCell (p := ⟨w.heap.size + 1, 0, none⟩) (Nat.le_succ _) _).setCell (p := ⟨w.heap.size + 1, 1, none⟩) (Nat.le_succ _) _, by simpa using hs, ?_, two_set h.cb, ?_⟩
  · rw [RowKit.Below.heap_setCell _ _ _ _ (by simp), RowKit.Below.heap_setCell _ _ _ _ (by simp)]; exact h.ca
  · rw [RowKit.Below.heap_setCell _ _ _ _ (by simp), RowKit.Below.heap_setCell _ _ _ _ (by simp)]; exact h.cr
theorem GSt.cells {w wr : World} {a b : Nat} (h : GSt w a b wr) : wr.cell? ⟨w.heap.size, 0, none⟩ = some (.int .u64 0) ∧ wr.cell? ⟨w.heap.size, 1, none⟩ = some (.int .u64 (a : Int)) ∧ wr.cell? ⟨w.heap.size + 1, 0, none⟩ = some (.int .u64 0) ∧ wr.cell? ⟨w.heap.size + 1, 1, none⟩ = some (.int .u64 (b : Int)) ∧ wr.cell? ⟨w.heap.size + 1 + 1, 0, none⟩ = some (.int .u64 0) ∧ wr.cell? ⟨w.heap.size + 1 + 1, 1, none⟩ = some (.int .u64 0) :=
  ⟨(two_cells h.ca).1, (two_cells h.ca).2, (two_cells h.cb).1, (two_cells h.cb).2, (two_cells h.cr).1, (two_cells h.cr).2⟩
theorem GSt.free {w wr : World} {a b : Nat} (h : GSt w a b wr) (i : Nat) : wr.frozen? ⟨w.heap.size, i, none⟩ = false ∧ wr.frozen? ⟨w.heap.size + 1, i, none⟩ = false ∧ wr.frozen? ⟨w.heap.size + 1 + 1, i, none⟩ = false :=
  ⟨block_unfrozen h.ca i, block_unfrozen h.cb i, block_unfrozen h.cr i⟩

theorem GSt.setR {w wr : World} {a b : Nat} (h : GSt w a b wr) (z : Value) : ((wr.setCell ⟨w.heap.size + 1 + 1, 0, none⟩ (.int .u64 0)).setCell ⟨w.heap.size + 1 + 1, 1, none⟩ z).cell? ⟨w.heap.size + 1 + 1, 0, none⟩ = some (.int .u64 0) ∧ ((wr.setCell ⟨w.heap.size + 1 + 1, 0, none⟩ (.int .u64 0)).setCell ⟨w.heap.size + 1 + 1, 1, none⟩ z).cell? ⟨w.heap.size + 1 + 1, 1, none⟩ = some z := two_cells (two_set h.cr)
theorem GSt.setR1 {w wr : World} {a b : Nat} (h : GSt w a b wr) : (wr.setCell ⟨w.heap.size + 1 + 1, 0, none⟩ (.int .u64 0)).cell? ⟨w.heap.size + 1 + 1, 0, none⟩ = some (.int .u64 0) := by
  have h1 : (wr.setCell ⟨w.heap.size + 1 + 1, 0, none⟩ (.int .u64 0)).heap[w.heap.size + 1 + 1]? = some (.cells #[.int .u64 0, .int .u64 0] 136 (0, 0)) := by rw [block_set h.cr]; rfl
  exact (two_cells h1).1
theorem GSt.endB {w wr : World} {a b : Nat} (h : GSt w a b wr) (z : Value) : Below w.heap.size w ((wr.setCell ⟨w.heap.size + 1 + 1, 0, none⟩ (.int .u64 0)).setCell ⟨w.heap.size + 1 + 1, 1, none⟩ z) :=
  (h.bel.setCell (p := ⟨w.heap.size + 1 + 1, 0, none⟩) (by simp only; omega) _).setCell (p := ⟨w.heap.size + 1 + 1, 1, none⟩) (by simp only; omega) _
theorem GSt.drew {w wr : World} {a b : Nat} (h : GSt w a b wr) : GSt w a b wr.drew := ⟨h.bel.drew, h.size, h.ca, h.cb, h.cr⟩
theorem bit_even {x : Nat} (hx : x < 2305843009213693952) (h : x % 2 = 0) : (bits BinOp.and IntKind.u64 (x : Int) 1 == 0) = true := by
  rw [and_one_u64 _ (by omega) (by omega)]; simp; omega
theorem bit_odd {x : Nat} (hx : x < 2305843009213693952) (h : ¬ x % 2 = 0) : (bits BinOp.and IntKind.u64 (x : Int) 1 == 0) = false := by
  rw [and_one_u64 _ (by omega) (by omega)]; simp; omega
def natAt (w : World) (p : Addr) : Nat := match w.cell? p with | some (.int _ n) => n.toNat | _ => 0
theorem GSt.natA {w wr : World} {a b : Nat} (h : GSt w a b wr) : natAt wr ⟨w.heap.size, 1, none⟩ = a := by rw [natAt, h.cells.2.1]; simp
theorem GSt.natB {w wr : World} {a b : Nat} (h : GSt w a b wr) : natAt wr ⟨w.heap.size + 1, 1, none⟩ = b := by rw [natAt, h.cells.2.2.2.1]; simp
theorem pow_lt61 {k b y : Nat} (h : 2 ^ k * y = b) (hb0 : 0 < b) (hb : b < 2305843009213693952) : k < 61 := by
  rcases Nat.lt_or_ge k 61 with h1 | h1
  · exact h1
  · have h2 : 2 ^ 61 ≤ 2 ^ k := Nat.pow_le_pow_right (by omega) h1
    have h3 : 0 < y := by
      rcases Nat.eq_zero_or_pos y with e | e
      · subst e; omega
      · exact e
    have h4 : 2 ^ k * 1 ≤ 2 ^ k * y := Nat.mul_le_mul_left _ h3
    have : (2 : Nat) ^ 61 = 2305843009213693952 := by decide
    omega

set_option maxRecDepth 100000 in
set_option maxHeartbeats 4000000 in
theorem refGcd_any (a b : Nat) (ha : a < 2305843009213693952) (hb : b < 2305843009213693952) (hb0 : 0 < b) (w : World) :
    Calls Tryz.prog 98 #[.agg #[.int .u64 0, .int .u64 (a : Int)], .agg #[.int .u64 0, .int .u64 (b : Int)]] w (Gives w (.agg #[.int .u64 0, .int .u64 ((Nat.gcd a b : Nat) : Int)])) := by
  by_cases h0 : a = 0
  · subst h0
    go_enter Tryz.func98, Tryz.ntmps98
    go_wp2
    go_returns
    exact Gives.mk (by simp) ((((Below.refl _ _).alloc (Nat.le_refl _) _).alloc (by simp) _).alloc (by simp; omega) _)
  · have hne : ((a : Int) == 0) = false := by simp; omega
    have hG : ∃ W, W = (((w.alloc (.cells #[.int .u64 0, .int .u64 (a : Int)] 136)).alloc (.cells #[.int .u64 0, .int .u64 (b : Int)] 136)).alloc (.cells #[.int .u64 0, .int .u64 0] 136)) ∧ GSt w a b W := ⟨_, rfl, by
      obtain ⟨W1, e1, s1, b1, h1⟩ := boxed w (.cells #[.int .u64 0, .int .u64 (a : Int)] 136)
      obtain ⟨W2, e2, s2, b2, h2⟩ := boxed W1 (.cells #[.int .u64 0, .int .u64 (b : Int)] 136)
      obtain ⟨W3, e3, s3, b3, h3⟩ := boxed W2 (.cells #[.int .u64 0, .int .u64 0] 136)
      rw [← e1, ← e2, ← e3]
      rw [s1] at h2
      rw [s2, s1] at h3
      exact ⟨b1.trans ((b2.mono (by omega)).trans (b3.mono (by omega))), by omega, (b3.block _ (by omega)).trans ((b2.block _ (by omega)).trans h1), (b3.block _ (by omega)).trans h2, h3⟩⟩
    obtain ⟨W, hW, hG⟩ := hG
    have HW := hide hW
    have HG := hide hG
    clear hW hG
    go_enter Tryz.func98, Tryz.ntmps98
    go_wp2
    rw [← HW.out]
    go_loopw [5] (fun t wr => ∃ x y k : Nat, t = .int .i64 k ∧ 0 < x ∧ x ≤ a ∧ 0 < y ∧ y ≤ b ∧ Hid (2 ^ k * x = a) ∧ Hid (2 ^ k * y = b) ∧ k < 61 ∧ Hid (GSt w x y wr)) (fun t _ => 62 - (intOf t).toNat)
    case atStart => exact ⟨a, b, 0, rfl, by omega, by omega, by omega, by omega, hide (by simp), hide (by simp), by omega, HG⟩
    case round =>
      obtain ⟨x, y, k, rfl, hx0, hxa, hy0, hyb, hxk, hyk, hk, hst⟩ := hrel
      have hc := hst.out.cells
      have hf0 := hst.out.free 0
      have hf1 := hst.out.free 1
      by_cases px : x % 2 = 0 ∧ y % 2 = 0
      · have e1 := bit_even (x := x) (by omega) px.1
        have e2 := bit_even (x := y) (by omega) px.2
        go_wp2_with fail
        go_region_with (first
          | (go_at_call_of 108 x; refine (half_any x (by omega) _).mono ?_; rintro e w1 ⟨rfl, hb1⟩; have g1 : GSt w x y w1 := by { first | exact hst.out.more hb1 | exact hst.out.drew.more hb1 }; have hc1 := g1.cells; have hf10 := g1.free 0; have hf11 := g1.free 1)
          | (go_at_call_of 108 y; refine (half_any y (by omega) _).mono ?_; rintro e w2 ⟨rfl, hb2⟩; have g2 : GSt w x y w2 := by { first | exact g1.more hb2 | exact g1.drew.more hb2 }; have hc2 := g2.cells; have hf20 := g2.free 0; have hf21 := g2.free 1))
        all_goals

          have hk2 : IntKind.i64.wrap ((k : Int) + 1) = (k : Int) + 1 := IntWalk.i64_in _ (by omega)
          have hx2 : 2 * (x / 2) = x := by omega
          have hy2 : 2 * (y / 2) = y := by omega
          have hax : 2 ^ (k + 1) * (x / 2) = a := by rw [Nat.pow_succ, Nat.mul_assoc, hx2]; exact hxk.out
          have hay : 2 ^ (k + 1) * (y / 2) = b := by rw [Nat.pow_succ, Nat.mul_assoc, hy2]; exact hyk.out
          have g3 := (g2.setA (x / 2)).setB (y / 2)
          rw [Int.natCast_ediv, Int.natCast_ediv] at g3
          have hk61 := pow_lt61 hay hb0 hb
          have G3 := hide g3
          have HAX := hide hax
          have HAY := hide hay
          clear g3 hax hay hc hf0 hf1 hc1 hf10 hf11 hc2 hf20 hf21 g1 g2
          go_simp
          go_wp2
          exact ⟨⟨x / 2, y / 2, k + 1, by go_num, by omega, by omega, by omega, by omega, HAX, HAY, hk61, G3⟩, by simp [intOf]; omega⟩
      · have hodd : Nat.gcd x y % 2 = 1 := gcd_odd (by omega)
        have hG : 2 ^ k * Nat.gcd x y = Nat.gcd a b := by rw [← Nat.gcd_mul_left, hxk.out, hyk.out]
        obtain ⟨g, hg⟩ : ∃ g, g = Nat.gcd x y := ⟨_, rfl⟩
        rw [← hg] at hodd hG
        have HG2 := hide hG
        have HODD := hide hodd
        clear hG hodd
        have hloop : (bits BinOp.and IntKind.u64 (x : Int) 1 == 0) = false ∨ ((bits BinOp.and IntKind.u64 (x : Int) 1 == 0) = true ∧ (bits BinOp.and IntKind.u64 (y : Int) 1 == 0) = false) := by
          by_cases p1 : x % 2 = 0
          · exact Or.inr ⟨bit_even (by omega) p1, bit_odd (by omega) (by omega)⟩
          · exact Or.inl (bit_odd (by omega) p1)
        rcases hloop with e1 | ⟨e1, e2⟩
        all_goals
          go_wp2
          go_loopw [] (fun wr => ∃ u v : Nat, 0 < v ∧ u < 2305843009213693952 ∧ v < 2305843009213693952 ∧ Hid (Nat.gcd u v = g) ∧ Hid (GSt w u v wr)) (fun wr => natAt wr ⟨w.heap.size, 1, none⟩ + natAt wr ⟨w.heap.size + 1, 1, none⟩)
          case atStart => exact ⟨x, y, hy0, by omega, by omega, hide hg.symm, hst⟩
          case round =>
            obtain ⟨u, v, hv0, hu, hv, huv, hst2⟩ := hrel
            have hc := hst2.out.cells
            by_cases hu0 : u = 0
            · subst hu0
              have hvg : v = g := by have := huv.out; rwa [Nat.gcd_zero_left] at this
              go_wp2
              go_loopw [5] (fun t wr => ∃ c i : Nat, t = .int .i64 i ∧ 0 < c ∧ Hid (2 ^ i * c = Nat.gcd a b) ∧ i < 61 ∧ Hid (GSt w 0 c wr)) (fun t _ => (intOf t).toNat)
              case atStart => exact ⟨v, k, rfl, hv0, hide (by rw [hvg]; exact HG2.out), hk, hst2⟩
              case round =>
                obtain ⟨c, i, rfl, hc0, hgi, hi, hst3⟩ := hrel
                have hc' := hst3.out.cells
                have hf0 := hst3.out.free 0
                have hf1 := hst3.out.free 1
                by_cases hi0 : i = 0
                · subst hi0
                  have hcg : c = Nat.gcd a b := by have := hgi.out; simpa using this
                  have hR := fun z => (hst3.out.setR z).2
                  have hR1 := hst3.out.setR1
                  go_wp2
                  try simp only [Exit.inBlock, Exit.then]
                  refine bodyPost_ret (by simp [results, Tryz.results98, go_sem, hR1, hR]; try rfl) rfl ?_
                  exact Gives.mk rfl (hst3.out.endB _)
                · have hi1 : 2 ^ (i - 1) * (c + c) = Nat.gcd a b := by
                    rw [← hgi.out]
                    conv => rhs; rw [show i = (i - 1) + 1 by omega, Nat.pow_succ]
                    rw [Nat.mul_assoc]; congr 1; omega
                  have hgb : Nat.gcd a b ≤ b := Nat.le_of_dvd hb0 (Nat.gcd_dvd_right a b)
                  have hcc : c + c ≤ Nat.gcd a b := by
                    rw [← hi1]
                    exact Nat.le_mul_of_pos_left _ (Nat.pos_of_ne_zero (by simp))
                  have HI := hide hi1
                  clear hi1
                  go_wp2_with (go_at_call 111; refine (plus_any c c (by omega) (by omega) _).mono ?_; rintro e w1 ⟨rfl, hb1⟩; have g1 : GSt w 0 c w1 := hst3.out.more hb1; have hc1 := g1.cells; have hf10 := g1.free 0; have hf11 := g1.free 1)
                  have g3 := g1.setB (c + c)
                  have hpos : i - 1 + 1 = i := by omega
                  exact ⟨⟨c + c, i - 1, by go_num, by omega, HI, by omega, hide (by simpa using g3)⟩, by simp [intOf]; omega⟩
            · have hune : ((u : Int) != 0) = true := by simp; omega
              have hune' : ((u : Int) == 0) = false := by simp; omega
              go_wp2
              go_loopw [] (fun wr => ∃ u' : Nat, 0 < u' ∧ u' ≤ u ∧ Hid (Nat.gcd u' v = g) ∧ Hid (GSt w u' v wr)) (fun wr => natAt wr ⟨w.heap.size, 1, none⟩)
              case atStart => exact ⟨u, by omega, Nat.le_refl _, huv, hst2⟩
              case round =>
                obtain ⟨u', hu0', hule, hg3, hst3⟩ := hrel
                have hc := hst3.out.cells
                have hf0 := hst3.out.free 0
                have hf1 := hst3.out.free 1
                by_cases pu : u' % 2 = 0
                · have e3 := bit_even (x := u') (by omega) pu
                  go_wp2_with (go_at_call 108; refine (half_any u' (by omega) _).mono ?_; rintro e w1 ⟨rfl, hb1⟩; have g1 : GSt w u' v w1 := hst3.out.more hb1; have hc1 := g1.cells; have hf10 := g1.free 0; have hf11 := g1.free 1)
                  have g3 := g1.setA (u' / 2)
                  have hnA : natAt wr ⟨w.heap.size, 1, none⟩ = u' := hst3.out.natA
                  have hnB := g3.natA
                  rw [Int.natCast_ediv] at g3 hnB
                  have hgg : Nat.gcd (u' / 2) v = g := by
                    have h2 : 2 * (u' / 2) = u' := by omega
                    have h3 := gcd_half (x := u' / 2) (b := v) (by rw [h2, hg3.out]; exact HODD.out)
                    rw [h3, h2, hg3.out]
                  exact ⟨⟨u' / 2, by omega, by omega, hide hgg, hide g3⟩, by rw [hnA]; refine Nat.lt_of_le_of_lt (Nat.le_of_eq hnB) ?_; omega⟩
                · have e3 := bit_odd (x := u') (by omega) pu
                  go_wp2
                  go_loopw [] (fun wr => ∃ v' : Nat, 0 < v' ∧ v' ≤ v ∧ Hid (Nat.gcd u' v' = g) ∧ Hid (GSt w u' v' wr)) (fun wr => natAt wr ⟨w.heap.size + 1, 1, none⟩)
                  case atStart => exact ⟨v, by omega, Nat.le_refl _, hg3, hst3⟩
                  case round =>
                    obtain ⟨v', hv0', hvle, hg4, hst4⟩ := hrel
                    have hc := hst4.out.cells
                    have hf0 := hst4.out.free 0
                    have hf1 := hst4.out.free 1
                    by_cases pv : v' % 2 = 0
                    · have e4 := bit_even (x := v') (by omega) pv
                      go_wp2_with (go_at_call 108; refine (half_any v' (by omega) _).mono ?_; rintro e w1 ⟨rfl, hb1⟩; have g1 : GSt w u' v' w1 := hst4.out.more hb1; have hc1 := g1.cells; have hf10 := g1.free 0; have hf11 := g1.free 1)
                      have g3 := g1.setB (v' / 2)
                      have hnA : natAt wr ⟨w.heap.size + 1, 1, none⟩ = v' := hst4.out.natB
                      have hnB := g3.natB
                      rw [Int.natCast_ediv] at g3 hnB
                      have hgg : Nat.gcd u' (v' / 2) = g := by
                        have h2 : 2 * (v' / 2) = v' := by omega
                        have h3 := gcd_half' (x := v' / 2) (b := u') (by rw [h2, hg4.out]; exact HODD.out)
                        rw [h3, h2, hg4.out]
                      exact ⟨⟨v' / 2, by omega, by omega, hide hgg, hide g3⟩, by rw [hnA]; refine Nat.lt_of_le_of_lt (Nat.le_of_eq hnB) ?_; omega⟩
                    · have e4 := bit_odd (x := v') (by omega) pv
                      by_cases hlt : u' < v'
                      · have hgg : Nat.gcd (v' - u') u' = g := by rw [gcd_minus (by omega), Nat.gcd_comm]; exact hg4.out
                        go_wp2_with (first
                          | (go_at_call 109; refine (less_any u' v' _).mono ?_; rintro e w1 ⟨rfl, hb1⟩; have g1 : GSt w u' v' w1 := hst4.out.more hb1; have hc1 := g1.cells; have hf10 := g1.free 0; have hf11 := g1.free 1)
                          | (go_at_call 110; refine (minus_any v' u' (by omega) (by omega) _).mono ?_; rintro e w2 ⟨rfl, hb2⟩; have g2 := ((g1.setA v').setB u').more hb2; have hc2 := g2.cells; have hf20 := g2.free 0; have hf21 := g2.free 1))
                        have hg5 := g2.setA (v' - u')
                        have hnA := hst2.out.natA
                        have hnB := hst2.out.natB
                        have hnA' := hg5.natA
                        have hnB' := hg5.natB
                        exact ⟨⟨v' - u', u', by omega, by omega, by omega, hide hgg, hide hg5⟩, by rw [hnA, hnB, hnA', hnB']; omega⟩
                      · have hgg : Nat.gcd (u' - v') v' = g := by rw [gcd_minus (by omega)]; exact hg4.out
                        go_wp2_with (first
                          | (go_at_call 109; refine (less_any u' v' _).mono ?_; rintro e w1 ⟨rfl, hb1⟩; have g1 : GSt w u' v' w1 := hst4.out.more hb1; have hc1 := g1.cells; have hf10 := g1.free 0; have hf11 := g1.free 1)
                          | (go_at_call 110; refine (minus_any u' v' (by omega) (by omega) _).mono ?_; rintro e w2 ⟨rfl, hb2⟩; have g2 := g1.more hb2; have hc2 := g2.cells; have hf20 := g2.free 0; have hf21 := g2.free 1))
                        have hg5 := g2.setA (u' - v')
                        have hnA := hst2.out.natA
                        have hnB := hst2.out.natB
                        have hnA' := hg5.natA
                        have hnB' := hg5.natB
                        exact ⟨⟨u' - v', v', by omega, by omega, by omega, hide hgg, hide hg5⟩, by rw [hnA, hnB, hnA', hnB']; omega⟩
end Go.Proofs.YtgamhdbcejkllaaGreatDoor
