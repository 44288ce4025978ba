/- slices.Equal at tokens: a list is equal to itself, wherever it lies. -/
import Derived.Test.YtplblogdgbnbdaaDoorDecTokens
namespace Go.Proofs.YtplblogdgbnbdaaDoor
open Go.RowKit

/-- the tokens lie in w below block B -/
def TokSl (w : World) (B : Nat) (A : Option Addr) (l : List TokD) : Prop := 0 < l.length → ∃ g, A = some ⟨g, 0, none⟩ ∧ g < B ∧ ∀ i t, l[i]? = some t → ∀ j u, (TokD.cells t)[j]? = some u → w.cell? ⟨g, i * 4 + j, none⟩ = some u
theorem tokCells_get : ∀ (l : List TokD) (i : Nat) (t : TokD), l[i]? = some t → ∀ (j : Nat) (u : Value), (TokD.cells t)[j]? = some u → (tokCells l)[i * 4 + j]? = some u
  | [], i, t, h, _, _, _ => by simp at h
  | x :: l, 0, t, h, j, u, hu => by
    simp only [List.getElem?_cons_zero, Option.some.injEq] at h
    subst h
    have hj : j < 4 := (List.getElem?_eq_some_iff.1 hu).1
    rw [show tokCells (x :: l) = TokD.cells x ++ tokCells l from rfl, Nat.zero_mul, Nat.zero_add, List.getElem?_append_left hj]
    exact hu
  | x :: l, i + 1, t, h, j, u, hu => by
    rw [show tokCells (x :: l) = TokD.cells x ++ tokCells l from rfl, List.getElem?_append_right (by show 4 ≤ _; omega)]
    have := tokCells_get l i t (by simpa using h) j u hu
    rw [show (i + 1) * 4 + j - (TokD.cells x).length = i * 4 + j by show (i + 1) * 4 + j - 4 = _; omega]
    exact this
theorem TokSl.of_owns {w : World} {base : Nat} {v : Value} {l : List TokD} (h : w.ownsRow base 51 4 v l.length (tokCells l)) : ∃ A cap, v = .slice A l.length cap ∧ TokSl w w.heap.size A l := by
  rcases Nat.eq_zero_or_pos l.length with h0 | h0
  · rcases h.2 with ⟨rfl, _⟩ | ⟨g, cap, _, rfl, _⟩
    · exact ⟨none, 0, by rw [h0], fun hp => by omega⟩
    · exact ⟨_, _, rfl, fun hp => by omega⟩
  · obtain ⟨g, cap, rfl, hb, hlt⟩ := h.form h0
    refine ⟨_, _, rfl, fun _ => ⟨g, rfl, hlt, fun i t ht j u hu => ?_⟩⟩
    have := World.ownsRow.cells h rfl (i * 4 + j) u (tokCells_get l i t ht j u hu)
    have hadd : (⟨g, 0, none⟩ : Addr).add (i * 4 + j) = ⟨g, i * 4 + j, none⟩ := by unfold Addr.add; split <;> simp_all
    rwa [hadd] at this
theorem TokSl.to {w w' : World} {B B' : Nat} {A : Option Addr} {l : List TokD} (h : TokSl w B A l) (hb : Below B w w') (hB : B ≤ B') : TokSl w' B' A l := fun h0 => by
  obtain ⟨g, hA, hg, hc⟩ := h h0
  exact ⟨g, hA, by omega, fun i t ht j u hu => (hb.cell (p := ⟨g, i * 4 + j, none⟩) hg).trans (hc i t ht j u hu)⟩
theorem toksF_length : ∀ (f : Nat) (acc : List TokD) (l : List UInt8) (line col : Int) (r : List TokD), toksF f acc l line col = .good r → r.length ≤ acc.length + f
  | 0, _, _, _, _, _, h => by simp [toksF] at h
  | f + 1, acc, [], line, col, r, h => by
    simp only [toksF, TRes.good.injEq] at h
    rw [← h, List.length_append, List.length_singleton]; omega
  | f + 1, acc, c :: l, line, col, r, h => by
    rw [toksF] at h
    split at h
    · have := toksF_length f _ _ _ _ _ h; omega
    · have := toksF_length f _ _ _ _ _ h; rw [List.length_append, List.length_singleton] at this; omega
    · have := toksF_length f _ _ _ _ _ h; rw [List.length_append, List.length_singleton] at this; omega
    · cases h
theorem toks_length {l : List UInt8} {r : List TokD} (h : toks l = .good r) : r.length ≤ l.length + 1 := by
  have := toksF_length _ _ _ _ _ _ h
  simpa using this
set_option maxHeartbeats 4000000 in
set_option maxRecDepth 100000 in
theorem eqTokens_same (l : List TokD) (hl : l.length ≤ 1000000) (A1 A2 : Option Addr) (c1 c2 : Nat) (w : World) (h1 : TokSl w w.heap.size A1 l) (h2 : TokSl w w.heap.size A2 l) :
    Calls Tryd.prog 24 #[.slice A1 l.length c1, .slice A2 l.length c2] w (Gives w (.bool true)) := by
  have H1 := hide h1
  have H2 := hide h2
  clear h1 h2
  obtain ⟨N, hN⟩ : ∃ N, N = l.length := ⟨_, rfl⟩
  rw [← hN] at hl ⊢
  have HN := hide hN
  clear hN
  go_enter Tryd.func24, Tryd.ntmps24
  go_wp2
  go_loopw [13] (fun v wr => ∃ k : Nat, v = .int .i64 k ∧ k ≤ N ∧ ∃ x : After w.heap.size w, wr = x.val) (fun v _ => N - (intOf v).toNat)
  case atStart => exact ⟨0, rfl, Nat.zero_le _, After.refl _ _, rfl⟩
  case round =>
    obtain ⟨k, rfl, hk, x, rfl⟩ := hrel
    by_cases hlt : k < N
    · obtain ⟨t, ht⟩ : ∃ t, l[k]? = some t := ⟨l[k]'(by have := HN.out; omega), List.getElem?_eq_getElem _⟩
      obtain ⟨g1, rfl, hg1, hc1⟩ := H1.out (by have := HN.out; omega)
      obtain ⟨g2, rfl, hg2, hc2⟩ := H2.out (by have := HN.out; omega)
      have a0 := fun y : After w.heap.size w => (y.below.cell (p := ⟨g1, k * 4 + 0, none⟩) hg1).trans (hc1 k t ht 0 _ rfl)
      have a1 := fun y : After w.heap.size w => (y.below.cell (p := ⟨g1, k * 4 + 1, none⟩) hg1).trans (hc1 k t ht 1 _ rfl)
      have a2 := fun y : After w.heap.size w => (y.below.cell (p := ⟨g1, k * 4 + 2, none⟩) hg1).trans (hc1 k t ht 2 _ rfl)
      have a3 := fun y : After w.heap.size w => (y.below.cell (p := ⟨g1, k * 4 + 3, none⟩) hg1).trans (hc1 k t ht 3 _ rfl)
      have b0 := fun y : After w.heap.size w => (y.below.cell (p := ⟨g2, k * 4 + 0, none⟩) hg2).trans (hc2 k t ht 0 _ rfl)
      have b1 := fun y : After w.heap.size w => (y.below.cell (p := ⟨g2, k * 4 + 1, none⟩) hg2).trans (hc2 k t ht 1 _ rfl)
      have b2 := fun y : After w.heap.size w => (y.below.cell (p := ⟨g2, k * 4 + 2, none⟩) hg2).trans (hc2 k t ht 2 _ rfl)
      have b3 := fun y : After w.heap.size w => (y.below.cell (p := ⟨g2, k * 4 + 3, none⟩) hg2).trans (hc2 k t ht 3 _ rfl)
      rw [Nat.add_zero] at a0 b0
      have k0 : 0 ≤ (k : Int) := by omega
      have k1 : (k : Int) < (N : Int) := by omega
      clear hc1 hc2 ht H1 H2
      go_wp2
      refine wp_region_after x (by kernel_rfl) (by kernel_rfl) ?_
      repeat (go_big_quiet_step (fail))
      refine wpQuiet_nil ?_
      intro z
      go_wp2
      exact ⟨⟨k + 1, by go_num, by omega, z, rfl⟩, by simp [intOf]; omega⟩
    · go_wp2
      go_ret
      exact Gives.mk rfl x.below
end Go.Proofs.YtplblogdgbnbdaaDoor
