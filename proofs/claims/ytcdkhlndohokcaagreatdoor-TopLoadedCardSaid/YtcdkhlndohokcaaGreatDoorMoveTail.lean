/- A region that draws its order and begins with a copy of a slot that is used only behind a writing call: the copy is taken first; then the quiet head, then the tail in one forced order. -/
import Derived.Orders
import Derived.Test.YtcdkhlndohokcaaGreatDoorQuietTail
namespace Go.Proofs.YtcdkhlndohokcaaGreatDoor
open Go.RowKit

section
variable {P : Program} {ops : Array Oper} {md : Region.Mode} {C : World → Prop}
/-- every operation from m on is waited for, at the latest by the first of the tail -/
def sinkFrom (md : Region.Mode) (ops : Array Oper) (m n : Nat) : Bool :=
  (List.range n).all fun i => decide (i < m) || (List.range (n + 1)).any fun j => decide (i < j) && Region.waitsFor md ops j i
theorem sinkFrom_iff {m n i : Nat} (h : sinkFrom md ops m n = true) (hm : m ≤ i) (hi : i < n) : ∃ j, i < j ∧ j ≤ n ∧ Region.waitsFor md ops j i = true := by
  have h1 := List.all_eq_true.1 h i (List.mem_range.2 hi)
  simp only [Bool.or_eq_true, decide_eq_true_eq] at h1
  rcases h1 with h1 | h1
  · omega
  · obtain ⟨j, hj, h2⟩ := List.any_eq_true.1 h1
    simp only [Bool.and_eq_true, decide_eq_true_eq] at h2
    exact ⟨j, h2.1, by have := List.mem_range.1 hj; omega, h2.2⟩
theorem waits_tail {m n : Nat} {listed : Array Bool} (hs : sinkFrom md ops m n = true) (hc : Region.chainB md ops n = true) (inv : HeadInv md ops n listed) :
    ∀ (d i : Nat), n - i = d → m ≤ i → i < n → listed.getD i true = false → ∀ t, n ≤ t → t ∉ Region.ready md ops listed := by
  intro d
  induction d using Nat.strongRecOn with
  | _ d ih =>
    intro i hd hm hi hun t ht hr
    obtain ⟨htun, ot, hot, hall⟩ := mem_ready.1 hr
    have htl : t < ops.size := (Array.getElem?_eq_some_iff.1 hot).1
    rcases Nat.lt_or_ge n t with h | h
    · have h1 := List.all_eq_true.1 hc t (List.mem_range.2 htl)
      simp only [Bool.or_eq_true, decide_eq_true_eq] at h1
      rcases h1 with h1 | h1
      · omega
      · obtain ⟨o', ho', e, he, hb, hon⟩ := Region.waitsFor_spec h1
        obtain rfl := Option.some.inj (ho'.symm.trans hot)
        have h2 := hall e he hb
        rw [hon] at h2
        have h3 := inv.tail (t - 1) (by omega) (by omega)
        have h4 := getD_both h3
        rw [h2] at h4
        exact absurd h4 (by simp)
    · obtain rfl : t = n := by omega
      obtain ⟨j, hj1, hj2, hw⟩ := sinkFrom_iff hs hm hi
      obtain ⟨o', ho', e, he, hb, hon⟩ := Region.waitsFor_spec hw
      have hif := getD_both hun
      rcases Nat.lt_or_ge j t with hjt | hjt
      · have hju : listed.getD j true = false := by
          by_cases hl : listed.getD j false = true
          · have := inv.closed j o' ho' hl e he hb
            rw [hon, hif] at this
            exact absurd this (by simp)
          · have hjs : j < listed.size := by rw [inv.size]; omega
            simp [hjs] at hl ⊢
            exact hl
        exact ih (t - j) (by omega) j rfl (by omega) hjt hju t (Nat.le_refl _) hr
      · obtain rfl : j = t := by omega
        obtain rfl := Option.some.inj (ho'.symm.trans hot)
        have h2 := hall e he hb
        rw [hon, hif] at h2
        exact absurd h2 (by simp)
theorem headQ_firstM {m n i : Nat} {oi : Oper} {v : Value} {L : Array Bool → Act → Prop} (hi : ops[i]? = some oi) (hsel : ∀ (j : Nat) (o : Oper) cs b, ops[j]? = some o → o.op ≠ .select cs b)
    (hs : sinkFrom md ops m n = true) (hc : Region.chainB md ops n = true) (hmi : m ≤ i) (hin : i < n) (hdone : ∀ listed a, L listed a → ∀ j ∈ Region.ready md ops listed, n ≤ j) :
    ∀ (f : Nat) (listed : Array Bool) (a : Act), HeadInv md ops n listed →
      (∀ j oj, ops[j]? = some oj → j ≠ i → listed.getD j true = false → (∀ e ∈ oj.after, Region.binds md e = true → e.on ≠ i) → oi.apart ops oj = true) →
      i ∈ Region.ready md ops listed → YieldsIn P ops C oi v a →
      headQ P md ops C n L f (listed.setIfInBounds i true) (a.put oi.dst v) → headQ P md ops C n L (f + 1) listed a
  | f, listed, a, inv, hfree, hr, hy, H => by
    have hun := (mem_ready.1 hr).1
    refine ⟨fun h => (by rw [h] at hr; cases hr), fun j hj => ?_⟩
    have hjn : j < n := (Nat.lt_or_ge j n).elim id fun h => absurd hj (waits_tail hs hc inv _ i rfl hmi hin hun j h)
    refine ⟨hjn, ?_⟩
    by_cases hji : j = i
    · subst hji; exact hy.qOp hi H
    · have hj' := ready_mono hj hji
      cases f with
      | zero => exact absurd (hdone _ _ H j hj') (by omega)
      | succ f =>
        obtain ⟨hjun, oj, hoj, hall⟩ := mem_ready.1 hj
        have hnot : ∀ e ∈ oj.after, Region.binds md e = true → e.on ≠ i := fun e he hb heq => by
          have h1 := hall e he hb
          rw [heq, getD_both hun] at h1
          cases h1
        have h2 := qOp_put hoj (hfree j oj hoj hji hjun hnot) (fun cs b => hsel i oi cs b hi) (fun cs b => hsel j oj cs b hoj) hy (H.2 j hj').2
        refine qOp_mono (fun a' h3 => headQ_firstM hi hsel hs hc hmi hin hdone f (listed.setIfInBounds j true) a' (inv.set hj hjn) (fun k ok hk hki hu hno => hfree k ok hk hki (by
          by_cases hjk : j = k
          · subst hjk; exact hjun
          · rwa [getD_set_ne true hjk] at hu) hno) (ready_mono hr (Ne.symm hji)) h3.1 ?_) h2
        rw [Array.setIfInBounds_comm _ _ hji]
        exact h3.2
theorem headQ_lexM {m n g : Nat} {Lq : Act → Prop} (hsel : Region.noSelect ops = true) (hs : sinkFrom md ops m n = true) (hc : Region.chainB md ops n = true) :
    ∀ (l : List Oper) (k : Nat) (listed : Array Bool) (a : Act), m ≤ k → (∀ j, j < l.length → l[j]? = ops[k + j]?) → k + l.length = n → HeadInv md ops n listed →
    Region.lexHead md ops g l.length k listed = true → wpQuiet P ops C Lq l a → headQ P md ops C n (fun listed' a' => Region.seqB md ops g n listed' = true ∧ Lq a') l.length listed a
  | [], k, listed, a, _, _, hk, _, hB, h => by
    have : k = n := by simpa using hk
    subst this
    exact ⟨by simpa [Region.lexHead] using hB, h⟩
  | o :: l, k, listed, a, hmk, hl, hk, inv, hB, h => by
    have h0 : ops[k]? = some o := by simpa using (hl 0 (by simp)).symm
    simp only [List.length_cons, Region.lexHead, Bool.and_eq_true] at hB
    obtain ⟨⟨hr, hf⟩, hB'⟩ := hB
    have hkn : k < n := by simp only [List.length_cons] at hk; omega
    have hr' : k ∈ Region.ready md ops listed := by simpa using hr
    have hst : qOp P ops C k (wpQuiet P ops C Lq l) a := by unfold qOp; simp only [h0]; exact h
    obtain ⟨v, hy, hK⟩ := yieldsIn_of_qOp h0 hst
    exact headQ_firstM h0 (Region.noSelect_spec hsel) hs hc hmk hkn (fun listed' a' hL => seqB_ready hL.1) l.length listed a inv (Region.free_spec h0 hf) hr' hy
      (headQ_lexM hsel hs hc l (k + 1) _ _ (by omega) (fun j hj => by have := hl (j + 1) (by simp; omega); simpa [Nat.add_assoc, Nat.add_comm 1 j] using this) (by simp only [List.length_cons] at hk; omega) (inv.set hr' hkn) hB' hK)
def moveTailB (md : Region.Mode) (ops : Array Oper) (n : Nat) : Bool :=
  Region.noSelect ops && decide (0 < n) && decide (n < ops.size) && sinkFrom md ops 1 n && Region.chainB md ops n && Region.free md ops (Array.replicate ops.size false) 0 && (Region.ready md ops (Array.replicate ops.size false)).contains 0 && Region.lexHead md ops (ops.size - n) (n - 1) 1 ((Array.replicate ops.size false).setIfInBounds 0 true)
/-- the copy, one walk of the head, then the tail in every world of the class -/
theorem wp_region_move_tail {id : Nat} {Q : Exit → Act → World → Prop} {a : Act} {w : World} {o : Oper} {l : List Oper} (n : Nat) (x : Operand) (hm : P.follows .mixedOrders = true) (hB : moveTailB .any (o :: l).toArray n = true) (ho : o.op = .move x) (hg : o.guard = none)
    (hQ : ∀ c a w v, Q (.panic c) (a.put o.dst v) w → Q (.panic c) a w) (hC : C { w with drawn := w.drawn + 1 })
    (h : wpQuiet P (o :: l).toArray C (fun a' => ∀ w', C w' → wpList P (o :: l).toArray Q ((o :: l).drop n) a' w') (l.take (n - 1)) (a.put o.dst (a.eval x))) : (Code.region id (o :: l).toArray true).wp P Q a w := by
  simp only [moveTailB, Bool.and_eq_true, decide_eq_true_eq] at hB
  obtain ⟨⟨⟨⟨⟨⟨⟨hsel, hn0⟩, hn⟩, hs⟩, hc⟩, hfree⟩, hrdy⟩, hlex⟩ := hB
  have hn' : n < l.length + 1 := by simpa using hn
  have htl : (l.take (n - 1)).length = n - 1 := by simp; omega
  have hdl : ((o :: l).drop n).length = (o :: l).toArray.size - n := by simp
  have hz : (o :: l).toArray.size = (n - 1 + ((o :: l).toArray.size - n)) + 1 := by omega
  refine wp_region_any hm ?_
  have inv0 : HeadInv .any (o :: l).toArray n (Array.replicate (o :: l).toArray.size false) :=
    ⟨by simp, fun j oj _ hl => (by rw [getD_replicate_false] at hl; cases hl), fun t _ ht => getD_in (by simpa using ht) (getD_replicate_false _ _)⟩
  have inv1 := inv0.set (i := 0) (by simpa using hrdy) (by omega)
  have key : ∀ F, F = n - 1 + ((o :: l).toArray.size - n) + 1 → wpAny P .any (o :: l).toArray Q F (Array.replicate (o :: l).toArray.size false) a { w with drawn := w.drawn + 1 } := fun F hF => by
    subst hF
    refine wpAny_take (i := 0) (oi := o) (v := a.eval x) (by simp) hsel hfree hrdy (fun c a w => hQ c a w _) (Or.inl ⟨by simp [Region.wanted, hg], fun w => by simp [execOp, ho]⟩) ?_
    have H := headQ_lexM (md := .any) (g := (o :: l).toArray.size - n) hsel hs hc (l.take (n - 1)) 1 _ (a.put o.dst (a.eval x)) (Nat.le_refl _) (fun j hj => by
      have hj' : j < n - 1 := by rw [htl] at hj; exact hj
      simp [hj', Nat.add_comm 1 j]) (by rw [htl]; omega) inv1 (by rw [htl]; exact hlex) h
    have := any_of_headQ (Q' := Q) (g := (o :: l).toArray.size - n) (fun listed a' w' hw' hL => by
      have := wpAny_of_seq (md := .any) (Q' := Q) ((o :: l).drop n) n listed a' w' (fun j => by rw [List.getElem?_drop]; simp) (by rw [hdl]; exact hL.1) (hL.2 w' hw')
      rwa [hdl] at this) _ _ _ _ hC H
    rwa [htl] at this
  exact key _ hz
theorem wp_move_tail {id : Nat} {Q : Exit → Act → World → Prop} {a : Act} (B : Nat) {w : World} {o : Oper} {l : List Oper} (n : Nat) (x : Operand) (hm : P.follows .mixedOrders = true) (hB : moveTailB .any (o :: l).toArray n = true) (ho : o.op = .move x) (hg : o.guard = none)
    (hQ : ∀ c a w v, Q (.panic c) (a.put o.dst v) w → Q (.panic c) a w)
    (h : wpQuiet P (o :: l).toArray (fun w' => ∃ x : After B w, w' = x.val) (fun a' => ∀ x : After B w, wpList P (o :: l).toArray Q ((o :: l).drop n) a' x.val) (l.take (n - 1)) (a.put o.dst (a.eval x))) : (Code.region id (o :: l).toArray true).wp P Q a w :=
  wp_region_move_tail (C := fun w' => ∃ x : After B w, w' = x.val) n x hm hB ho hg hQ (After.exists_iff ⟨rfl, rfl, rfl, Nat.le_refl _, fun _ _ => rfl⟩) (by
    have e : (fun a' => ∀ w', (∃ x : After B w, w' = x.val) → wpList P (o :: l).toArray Q ((o :: l).drop n) a' w') = (fun a' => ∀ x : After B w, wpList P (o :: l).toArray Q ((o :: l).drop n) a' x.val) := by
      funext a'
      exact propext ⟨fun h x => h _ ⟨x, rfl⟩, fun h w' ⟨x, hx⟩ => hx ▸ h x⟩
    rw [e]
    exact h)
end
end Go.Proofs.YtcdkhlndohokcaaGreatDoor
