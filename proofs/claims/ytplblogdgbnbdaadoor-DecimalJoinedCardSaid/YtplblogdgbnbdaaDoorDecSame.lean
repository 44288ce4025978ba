/- slices.EqualFunc at tokens with the law's own comparison. -/
import Derived.Test.YtplblogdgbnbdaaDoorDecTokEq
import Derived.Test.YtplblogdgbnbdaaDoorDecJoin
import Derived.Deep.DeepCutAuto
namespace Go.Proofs.YtplblogdgbnbdaaDoor
open Go.RowKit

def TokD.agg (t : TokD) : Value := .agg #[.int .i64 t.kind, .string t.text, .int .i64 t.line, .int .i64 t.col]
set_option maxHeartbeats 4000000 in
set_option maxRecDepth 100000 in
theorem sameTok_any (t u : TokD) (h1 : t.kind = u.kind) (h2 : t.text = u.text) (w : World) :
    Calls Tryd.prog 31 #[TokD.agg t, TokD.agg u] w (Gives w (.bool true)) := by
  unfold TokD.agg
  rw [h1, h2]
  clear h1 h2
  go_enter Tryd.func31, Tryd.ntmps31
  go_wp2
  go_ret
  exact Gives.mk rfl (((Below.refl _ _).alloc (Nat.le_refl _) _).alloc (by simp) _)
set_option maxHeartbeats 4000000 in
set_option maxRecDepth 100000 in
theorem sameToks_any (l m : List TokD) (hb : l.map TokD.bare = m.map TokD.bare) (hl : l.length ≤ 1000000) (A1 A2 : Option Addr) (c1 c2 : Nat) (w : World) (h1 : TokSl w w.heap.size A1 l) (h2 : TokSl w w.heap.size A2 m) :
    Calls Tryd.prog 30 #[.slice A1 l.length c1, .slice A2 m.length c2, (.func (.func 31) #[] #[])] w (Gives w (.bool true)) := by
  have hlm : m.length = l.length := by have := congrArg List.length hb; simpa using this.symm
  rw [hlm]
  have H1 := hide h1
  have H2 := hide h2
  have HB := hide hb
  have HM := hide hlm
  clear h1 h2 hb hlm
  obtain ⟨N, hN⟩ : ∃ N, N = l.length := ⟨_, rfl⟩
  rw [← hN] at hl ⊢
  have HN := hide hN
  clear hN
  go_enter Tryd.func30, Tryd.ntmps30
  go_wp2
  go_loopw [17] (fun v wr => ∃ k : Nat, v = .int .i64 k ∧ k ≤ N ∧ ∃ x : After w.heap.size w, wr = x.val) (fun v _ => N - (intOf v).toNat)
  case atStart => exact ⟨0, rfl, Nat.zero_le _, After.refl _ _, rfl⟩
  case round =>
    obtain ⟨k, rfl, hk, x, rfl⟩ := hrel
    by_cases hlt : k < N
    · obtain ⟨t, ht⟩ : ∃ t, l[k]? = some t := ⟨l[k]'(by have := HN.out; omega), List.getElem?_eq_getElem _⟩
      obtain ⟨t', ht'⟩ : ∃ t, m[k]? = some t := ⟨m[k]'(by have := HN.out; have := HM.out; omega), List.getElem?_eq_getElem _⟩
      obtain ⟨g1, rfl, hg1, hc1⟩ := H1.out (by have := HN.out; omega)
      obtain ⟨g2, rfl, hg2, hc2⟩ := H2.out (by have := HN.out; have := HM.out; omega)
      have a0 := fun y : After w.heap.size w => (y.below.cell (p := ⟨g1, k * 4 + 0, none⟩) hg1).trans (hc1 k t ht 0 _ rfl)
      have a1 := fun y : After w.heap.size w => (y.below.cell (p := ⟨g1, k * 4 + 1, none⟩) hg1).trans (hc1 k t ht 1 _ rfl)
      have a2 := fun y : After w.heap.size w => (y.below.cell (p := ⟨g1, k * 4 + 2, none⟩) hg1).trans (hc1 k t ht 2 _ rfl)
      have a3 := fun y : After w.heap.size w => (y.below.cell (p := ⟨g1, k * 4 + 3, none⟩) hg1).trans (hc1 k t ht 3 _ rfl)
      have b0 := fun y : After w.heap.size w => (y.below.cell (p := ⟨g2, k * 4 + 0, none⟩) hg2).trans (hc2 k t' ht' 0 _ rfl)
      have b1 := fun y : After w.heap.size w => (y.below.cell (p := ⟨g2, k * 4 + 1, none⟩) hg2).trans (hc2 k t' ht' 1 _ rfl)
      have b2 := fun y : After w.heap.size w => (y.below.cell (p := ⟨g2, k * 4 + 2, none⟩) hg2).trans (hc2 k t' ht' 2 _ rfl)
      have b3 := fun y : After w.heap.size w => (y.below.cell (p := ⟨g2, k * 4 + 3, none⟩) hg2).trans (hc2 k t' ht' 3 _ rfl)
      rw [Nat.add_zero] at a0 b0
      have d0 := fun (y : After w.heap.size w) (o : Obj) => (((Below.refl w.heap.size y.val).alloc y.size o).cell (p := ⟨g2, k * 4, none⟩) hg2).trans (b0 y)
      have d1 := fun (y : After w.heap.size w) (o : Obj) => (((Below.refl w.heap.size y.val).alloc y.size o).cell (p := ⟨g2, k * 4 + 1, none⟩) hg2).trans (b1 y)
      have d2 := fun (y : After w.heap.size w) (o : Obj) => (((Below.refl w.heap.size y.val).alloc y.size o).cell (p := ⟨g2, k * 4 + 2, none⟩) hg2).trans (b2 y)
      have d3 := fun (y : After w.heap.size w) (o : Obj) => (((Below.refl w.heap.size y.val).alloc y.size o).cell (p := ⟨g2, k * 4 + 3, none⟩) hg2).trans (b3 y)
      have k0 : 0 ≤ (k : Int) := by omega
      have k1 : (k : Int) < (N : Int) := by omega
      clear hc1 hc2 H1 H2
      go_wp2_with fail
      have hkt : t.kind = t'.kind ∧ t.text = t'.text := by
        have e1 : (l.map TokD.bare)[k]? = some t.bare := by rw [List.getElem?_map, ht]; rfl
        have e2 : (m.map TokD.bare)[k]? = some t'.bare := by rw [List.getElem?_map, ht']; rfl
        rw [HB.out, e2] at e1
        have e3 := Option.some.inj e1
        unfold TokD.bare at e3
        obtain ⟨e4, e5⟩ := Prod.mk.inj e3
        exact ⟨e4.symm, bs_inj e5.symm⟩
      refine (Gives.after (x := (⟨_, ((x.below.alloc x.size _).alloc (by have := x.size; simp; omega) _)⟩ : After w.heap.size w)) (Nat.le_refl _) (sameTok_any t t' hkt.1 hkt.2 _)).mono ?_
      rintro e w2 ⟨rfl, z, rfl⟩
      go_wp2
      exact ⟨⟨k + 1, by go_num, by omega, z, rfl⟩, by simp [intOf]; omega⟩
    · go_wp2
      go_ret
      exact Gives.mk rfl x.below
end Go.Proofs.YtplblogdgbnbdaaDoor
