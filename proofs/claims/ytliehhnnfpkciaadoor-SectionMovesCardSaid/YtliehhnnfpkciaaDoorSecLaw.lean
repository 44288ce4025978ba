/- What the section shows, in plain Lean: which signs stand where, how many pipes, and that a set that moves changes nothing outside the columns that it reaches. -/
import Derived.Test.YtliehhnnfpkciaaDoorSecSpec
namespace Go.Proofs.YtliehhnnfpkciaaDoor
open Go.RowKit

/-! ### what stays along the steps -/
theorem filled_keep {p : Int → Prop} {x top bottom left right : Int} {r c : Nat} {v : Int} (hx : p x) (hv : p v) : p (filled x top bottom left right r c v) := by
  unfold filled; split <;> assumption
theorem foldl_keep {α β : Type} {p : β → Prop} {f : β → α → β} (hf : ∀ b a, p b → p (f b a)) : ∀ (l : List α) (b : β), p b → p (l.foldl f b)
  | [], _, h => h
  | a :: l, b, h => foldl_keep hf l (f b a) (hf b a h)
section
variable {p : Int → Prop} {l : List SetD} {tr : List Int} {scale H : Int} {r c : Nat}
theorem lineStep_keep (h : p 124) {v : Int} {k : Nat} (hv : p v) : p (lineStep l tr scale H r c v k) := by unfold lineStep; exact filled_keep h hv
theorem itemsStep_keep (h : p 35) {v : Int} {k : Nat} (hv : p v) : p (itemsStep l tr scale H r c v k) := by
  unfold itemsStep; exact foldl_keep (fun b a hb => by unfold itemStep; exact filled_keep h hb) _ _ hv
theorem pipeStep_keep (h : p 43) {v : Int} {k : Nat} (hv : p v) : p (pipeStep l tr scale H r c v k) := by unfold pipeStep; exact filled_keep h hv
theorem linesTo_keep (h : p 124) (n : Nat) (hv : p (baseCell r)) : p (linesTo l tr scale H r c n) := foldl_keep (fun _ _ hb => lineStep_keep h hb) _ _ hv
theorem itemsTo_keep (h : p 35) (n : Nat) (hv : p (linesTo l tr scale H r c l.length)) : p (itemsTo l tr scale H r c n) := foldl_keep (fun _ _ hb => itemsStep_keep h hb) _ _ hv
theorem pipesTo_keep (h : p 43) (n : Nat) (hv : p (itemsTo l tr scale H r c l.length)) : p (pipesTo l tr scale H r c n) := foldl_keep (fun _ _ hb => pipeStep_keep h hb) _ _ hv
end
/-- a sign of the picture: equals signs in the first row only, dots below it only -/
def SecSign (r : Nat) (v : Int) : Prop := v = 124 ∨ v = 35 ∨ v = 43 ∨ (r = 0 ∧ v = 61) ∨ (r ≠ 0 ∧ v = 46)
theorem secCell_sign (l : List SetD) (tr : List Int) (scale H : Int) (r c : Nat) : SecSign r (secCell l tr scale H r c) :=
  pipesTo_keep (by simp [SecSign]) _ (itemsTo_keep (by simp [SecSign]) _ (linesTo_keep (by simp [SecSign]) _ (by
    unfold baseCell SecSign
    by_cases h : r = 0 <;> simp [h])))
/-- above a pipe its lines -/
def LineSign (v : Int) : Prop := v = 124 ∨ v = 35 ∨ v = 43
theorem linesTo_at {l : List SetD} {tr : List Int} {scale H : Int} {r c k : Nat} (hr : (r : Int) ≤ H - nth tr k / scale - 1) (hc : (setN l k).depth / scale = (c : Int)) : ∀ n, k < n → LineSign (linesTo l tr scale H r c n)
  | 0, h => absurd h (by omega)
  | n + 1, h => by
    rw [linesTo_next]
    by_cases e : k = n
    · subst e
      rw [lineStep, filled, if_pos ⟨⟨by omega, hr⟩, by omega, by omega⟩]
      exact Or.inl rfl
    · exact lineStep_keep (p := LineSign) (Or.inl rfl) (linesTo_at hr hc n (by omega))
theorem secCell_above {l : List SetD} {tr : List Int} {scale H : Int} {r c k : Nat} (hk : k < l.length) (hr : (r : Int) ≤ H - nth tr k / scale - 1) (hc : (setN l k).depth / scale = (c : Int)) : LineSign (secCell l tr scale H r c) :=
  pipesTo_keep (p := LineSign) (Or.inr (Or.inr rfl)) _ (itemsTo_keep (p := LineSign) (Or.inr (Or.inl rfl)) _ (linesTo_at hr hc _ hk))
/-- a pipe at its place -/
theorem pipesTo_at {l : List SetD} {tr : List Int} {scale H : Int} {r c k : Nat} (hr : H - nth tr k / scale = (r : Int)) (hc : (setN l k).depth / scale = (c : Int)) : ∀ n, k < n → pipesTo l tr scale H r c n = 43
  | 0, h => absurd h (by omega)
  | n + 1, h => by
    rw [pipesTo_next]
    by_cases e : k = n
    · subst e
      rw [pipeStep, filled, if_pos ⟨⟨by omega, by omega⟩, by omega, by omega⟩]
    · exact pipeStep_keep (p := fun v => v = 43) rfl (pipesTo_at hr hc n (by omega))
theorem secCell_pipe {l : List SetD} {tr : List Int} {scale H : Int} {r c k : Nat} (hk : k < l.length) (hr : H - nth tr k / scale = (r : Int)) (hc : (setN l k).depth / scale = (c : Int)) : secCell l tr scale H r c = 43 := pipesTo_at hr hc _ hk

/-! ### how many pipes -/
def plusTo (l : List SetD) (tr : List Int) (scale H : Int) (C n r : Nat) : Nat := (List.range C).countP fun c => decide (pipesTo l tr scale H r c n = 43)
def rowsSum (f : Nat → Nat) : Nat → Nat
  | 0 => 0
  | R + 1 => rowsSum f R + f R
theorem rowsSum_le {f g : Nat → Nat} (h : ∀ r, f r ≤ g r) : ∀ R, rowsSum f R ≤ rowsSum g R
  | 0 => Nat.le_refl _
  | R + 1 => Nat.add_le_add (rowsSum_le h R) (h R)
theorem rowsSum_add (f g : Nat → Nat) : ∀ R, rowsSum (fun r => f r + g r) R = rowsSum f R + rowsSum g R
  | 0 => rfl
  | R + 1 => by simp only [rowsSum, rowsSum_add f g R]; omega
theorem rowsSum_one (z : Int) : ∀ R, rowsSum (fun r => if z = (r : Int) then 1 else 0) R = if 0 ≤ z ∧ z < (R : Int) then 1 else 0
  | 0 => by rw [if_neg (by omega)]; rfl
  | R + 1 => by
    rw [rowsSum, rowsSum_one z R]
    by_cases h : z = (R : Int)
    · rw [if_neg (by omega), if_pos h, if_pos (by omega)]
    · by_cases h2 : 0 ≤ z ∧ z < (R : Int)
      · rw [if_pos h2, if_neg h, if_pos (by omega)]
      · rw [if_neg h2, if_neg h, if_neg (by omega)]
theorem countP_or {α : Type} (p q s : α → Bool) (h : ∀ x, s x = true → p x = true ∨ q x = true) : ∀ l : List α, l.countP s ≤ l.countP p + l.countP q
  | [] => by simp
  | x :: l => by
    have := countP_or p q s h l
    rw [List.countP_cons, List.countP_cons, List.countP_cons]
    by_cases hs : s x = true
    · rcases h x hs with hp | hq
      · rw [if_pos hs, if_pos hp]; split <;> omega
      · rw [if_pos hs, if_pos hq]; split <;> omega
    · rw [if_neg hs]; split <;> split <;> omega
theorem countP_one (z : Int) : ∀ C : Nat, (List.range C).countP (fun c : Nat => decide (z = (c : Int))) = if 0 ≤ z ∧ z < (C : Int) then 1 else 0
  | 0 => by rw [if_neg (by omega)]; rfl
  | C + 1 => by
    rw [List.range_succ, List.countP_append, countP_one z C]
    by_cases h : z = (C : Int)
    · rw [if_neg (by omega), if_pos (by omega)]; simp [h]
    · by_cases h2 : 0 ≤ z ∧ z < (C : Int)
      · rw [if_pos h2, if_pos (by omega)]; simp [h]
      · rw [if_neg h2, if_neg (by omega)]; simp [h]
theorem plusTo_next (l : List SetD) (tr : List Int) (scale H : Int) (C n r : Nat) : plusTo l tr scale H C (n + 1) r ≤ plusTo l tr scale H C n r + if H - nth tr n / scale = (r : Int) then 1 else 0 := by
  unfold plusTo
  by_cases h : H - nth tr n / scale = (r : Int)
  · rw [if_pos h]
    refine Nat.le_trans (countP_or (fun c => decide (pipesTo l tr scale H r c n = 43)) (fun c : Nat => decide ((setN l n).depth / scale = (c : Int))) _ (fun c hc => ?_) _) ?_
    · rw [decide_eq_true_eq, pipesTo_next, pipeStep, filled] at hc
      by_cases h2 : (setN l n).depth / scale = (c : Int)
      · exact Or.inr (by simpa using h2)
      · rw [if_neg (by omega)] at hc; exact Or.inl (by simpa using hc)
    · rw [countP_one]; split <;> omega
  · rw [if_neg h, Nat.add_zero]
    refine Nat.le_of_eq (congrArg (fun q => (List.range C).countP q) ?_)
    funext c
    rw [pipesTo_next, pipeStep, filled, if_neg (by omega)]
theorem plusTo_zero (l : List SetD) (tr : List Int) (scale H : Int) (C r : Nat) : plusTo l tr scale H C 0 r = 0 := by
  unfold plusTo
  rw [List.countP_eq_zero]
  intro c _
  have h := itemsTo_keep (p := fun v => v ≠ 43) (l := l) (tr := tr) (scale := scale) (H := H) (r := r) (c := c) (show (35 : Int) ≠ 43 by omega) l.length (linesTo_keep (p := fun v => v ≠ 43) (show (124 : Int) ≠ 43 by omega) _ (show baseCell r ≠ 43 by unfold baseCell; split <;> omega))
  exact fun e => h (by have := of_decide_eq_true e; simpa [pipesTo] using this)
theorem plus_all (l : List SetD) (tr : List Int) (scale H : Int) (C R : Nat) : ∀ n, rowsSum (plusTo l tr scale H C n) R ≤ n
  | 0 => by
    refine Nat.le_trans (rowsSum_le (g := fun _ => 0) (fun r => by rw [plusTo_zero]; exact Nat.le_refl _) R) ?_
    have : ∀ R, rowsSum (fun _ => 0) R = 0 := fun R => by induction R with
      | zero => rfl
      | succ R ih => rw [rowsSum, ih]
    rw [this]; exact Nat.le_refl _
  | n + 1 => by
    refine Nat.le_trans (rowsSum_le (plusTo_next l tr scale H C n) R) ?_
    rw [rowsSum_add, rowsSum_one]
    have := plus_all l tr scale H C R n
    split <;> omega
/-- the pluses of a row of the picture -/
theorem secRow_count (l : List SetD) (tr : List Int) (scale H : Int) (C r : Nat) : (secRow l tr scale H r C).count 43 = plusTo l tr scale H C l.length r := by
  unfold secRow plusTo List.count
  rw [List.countP_map]
  refine congrArg (fun q => (List.range C).countP q) ?_
  funext c
  have h := secByte_toNat l tr scale H r c
  rw [Function.comp, Bool.eq_iff_iff, beq_iff_eq, decide_eq_true_eq]
  change secByte l tr scale H r c = 43 ↔ secCell l tr scale H r c = 43
  rw [← h]
  constructor
  · intro e; rw [e]; rfl
  · intro e
    refine UInt8.toNat_inj.1 ?_
    have : (43 : UInt8).toNat = 43 := rfl
    omega

/-! ### a set that moves -/
theorem foldl_same {α β : Type} {f g : β → α → β} : ∀ (l : List α) (b : β), (∀ b a, a ∈ l → f b a = g b a) → l.foldl f b = l.foldl g b
  | [], _, _ => rfl
  | a :: l, b, h => by rw [List.foldl_cons, List.foldl_cons, h b a (by simp)]; exact foldl_same l _ fun b x hx => h b x (by simp [hx])
theorem foldl_none {α β : Type} {f : β → α → β} : ∀ (l : List α) (b : β), (∀ b a, a ∈ l → f b a = b) → l.foldl f b = b
  | [], _, _ => rfl
  | a :: l, b, h => by rw [List.foldl_cons, h b a (by simp)]; exact foldl_none l _ fun b x hx => h b x (by simp [hx])
/-- outside the columns that a set reaches -/
def Outside (s : SetD) (scale : Int) (c : Nat) : Prop := s.depth / scale ≠ (c : Int) ∧ ∀ i ∈ s.items.l, ¬ ((s.depth - i.back) / scale ≤ (c : Int) ∧ (c : Int) ≤ (s.depth + i.front) / scale)
theorem secCell_moved {l : List SetD} {tr tr' : List Int} {scale H : Int} {i r c : Nat} (ho : ∀ k, k ≠ i → nth tr k = nth tr' k) (hout : Outside (setN l i) scale c) : secCell l tr scale H r c = secCell l tr' scale H r c := by
  have e1 : linesTo l tr scale H r c l.length = linesTo l tr' scale H r c l.length := foldl_same _ _ fun v k _ => by
    unfold lineStep
    by_cases e : k = i
    · subst e; rw [filled, filled, if_neg (by have := hout.1; omega), if_neg (by have := hout.1; omega)]
    · rw [ho k e]
  have e2 : itemsTo l tr scale H r c l.length = itemsTo l tr' scale H r c l.length := by
    unfold itemsTo
    rw [e1]
    refine foldl_same _ _ fun v k _ => ?_
    unfold itemsStep
    by_cases e : k = i
    · subst e
      rw [foldl_none _ _ fun v it hi => (by rw [itemStep, filled, if_neg (fun h => hout.2 it hi h.2)]), foldl_none _ _ fun v it hi => (by rw [itemStep, filled, if_neg (fun h => hout.2 it hi h.2)])]
    · rw [ho k e]
  unfold secCell pipesTo
  rw [e2]
  refine foldl_same _ _ fun v k _ => ?_
  unfold pipeStep
  by_cases e : k = i
  · subst e; rw [filled, filled, if_neg (by have := hout.1; omega), if_neg (by have := hout.1; omega)]
  · rw [ho k e]
theorem secByte_moved {l : List SetD} {tr tr' : List Int} {scale H : Int} {i r c : Nat} (ho : ∀ k, k ≠ i → nth tr k = nth tr' k) (hout : Outside (setN l i) scale c) : secByte l tr scale H r c = secByte l tr' scale H r c := by
  unfold secByte; rw [secCell_moved ho hout]
/-- how far a set reaches -/
def lowTo (d : Int) (l : List ItemD) : Int := l.foldl (fun m i => min m (d - i.back)) d
def highTo (d : Int) (l : List ItemD) : Int := l.foldl (fun m i => max m (d + i.front)) d
theorem lowTo_next {l : List ItemD} {k : Nat} {i : ItemD} (d : Int) (h : l[k]? = some i) : lowTo d (l.take (k + 1)) = min (lowTo d (l.take k)) (d - i.back) := by
  rw [List.take_add_one, h]; simp [lowTo, List.foldl_append]
theorem highTo_next {l : List ItemD} {k : Nat} {i : ItemD} (d : Int) (h : l[k]? = some i) : highTo d (l.take (k + 1)) = max (highTo d (l.take k)) (d + i.front) := by
  rw [List.take_add_one, h]; simp [highTo, List.foldl_append]
theorem foldMin_le (d : Int) : ∀ (l : List ItemD) (m : Int), l.foldl (fun m i => min m (d - i.back)) m ≤ m ∧ ∀ i ∈ l, l.foldl (fun m i => min m (d - i.back)) m ≤ d - i.back
  | [], m => ⟨Int.le_refl _, fun _ h => by cases h⟩
  | i :: l, m => by
    obtain ⟨a, b⟩ := foldMin_le d l (min m (d - i.back))
    rw [List.foldl_cons]
    refine ⟨by omega, fun j hj => ?_⟩
    rcases List.mem_cons.1 hj with rfl | hj
    · omega
    · exact b j hj
theorem foldMax_ge (d : Int) : ∀ (l : List ItemD) (m : Int), m ≤ l.foldl (fun m i => max m (d + i.front)) m ∧ ∀ i ∈ l, d + i.front ≤ l.foldl (fun m i => max m (d + i.front)) m
  | [], m => ⟨Int.le_refl _, fun _ h => by cases h⟩
  | i :: l, m => by
    obtain ⟨a, b⟩ := foldMax_ge d l (max m (d + i.front))
    rw [List.foldl_cons]
    refine ⟨by omega, fun j hj => ?_⟩
    rcases List.mem_cons.1 hj with rfl | hj
    · omega
    · exact b j hj
theorem foldMin_ge (d : Int) : ∀ (l : List ItemD) (m : Int), (∀ i ∈ l, i.back ≤ 1048576) → 0 ≤ d → -1048576 ≤ m → -1048576 ≤ l.foldl (fun m i => min m (d - i.back)) m
  | [], _, _, _, h => h
  | i :: l, m, hb, hd, h => foldMin_ge d l _ (fun j hj => hb j (by simp [hj])) hd (by have := hb i (by simp); show -1048576 ≤ min m (d - i.back); omega)
theorem foldMax_le (d : Int) : ∀ (l : List ItemD) (m : Int), (∀ i ∈ l, i.front ≤ 1048576) → d ≤ 1048576 → m ≤ 2097152 → l.foldl (fun m i => max m (d + i.front)) m ≤ 2097152
  | [], _, _, _, h => h
  | i :: l, m, hb, hd, h => foldMax_le d l _ (fun j hj => hb j (by simp [hj])) hd (by have := hb i (by simp); show max m (d + i.front) ≤ 2097152; omega)
theorem outside_of {s : SetD} {scale : Int} {c : Nat} (hs : 1 ≤ scale) (h0 : 0 ≤ s.depth) (h : (c : Int) < max 0 (lowTo s.depth s.items.l) / scale ∨ highTo s.depth s.items.l / scale < (c : Int)) : Outside s scale c := by
  obtain ⟨l1, l2⟩ := foldMin_le s.depth s.items.l s.depth
  obtain ⟨h1, h2⟩ := foldMax_ge s.depth s.items.l s.depth
  change lowTo s.depth s.items.l ≤ s.depth at l1
  change s.depth ≤ highTo s.depth s.items.l at h1
  rcases h with h | h
  · have hm : max 0 (lowTo s.depth s.items.l) / scale ≤ s.depth / scale := Int.ediv_le_ediv (by omega) (by omega)
    refine ⟨by omega, fun i hi ⟨a, _⟩ => ?_⟩
    have h3 := l2 i hi
    change lowTo s.depth s.items.l ≤ s.depth - i.back at h3
    by_cases hn : 0 ≤ s.depth - i.back
    · have := Int.ediv_le_ediv (c := scale) (by omega) (show max 0 (lowTo s.depth s.items.l) ≤ s.depth - i.back by omega)
      omega
    · rw [show max 0 (lowTo s.depth s.items.l) = 0 by omega, Int.zero_ediv] at h
      omega
  · have hm : s.depth / scale ≤ highTo s.depth s.items.l / scale := Int.ediv_le_ediv (by omega) h1
    refine ⟨by omega, fun i hi ⟨_, b⟩ => ?_⟩
    have h3 := h2 i hi
    change s.depth + i.front ≤ highTo s.depth s.items.l at h3
    have := Int.ediv_le_ediv (c := scale) (by omega) h3
    omega
end Go.Proofs.YtliehhnnfpkciaaDoor
