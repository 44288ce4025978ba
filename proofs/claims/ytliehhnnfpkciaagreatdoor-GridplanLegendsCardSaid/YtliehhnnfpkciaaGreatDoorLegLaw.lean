/- The order of sets by depth, and lines that begin with names: in plain Lean. -/
import Derived.Test.YtliehhnnfpkciaaGreatDoorReeveWords
namespace Go.Proofs.YtliehhnnfpkciaaGreatDoor
open Go Go.Lib

/-- i set into a row of numbers by f, behind all that are not greater, looked for from the right -/
def insO (f : Nat → Int) (i : Nat) (out : List Nat) : List Nat := (out.reverse.dropWhile fun j => decide (f i < f j)).reverse ++ i :: (out.reverse.takeWhile fun j => decide (f i < f j)).reverse
/-- how many stay before i: the place where i comes -/
def insAt (f : Nat → Int) (i : Nat) (out : List Nat) : Nat := (out.reverse.dropWhile fun j => decide (f i < f j)).length
theorem insAt_le (f : Nat → Int) (i : Nat) (out : List Nat) : insAt f i out ≤ out.length := by
  have h := congrArg List.length (List.takeWhile_append_dropWhile (p := fun j => decide (f i < f j)) (l := out.reverse))
  rw [List.length_append, List.length_reverse] at h
  unfold insAt
  omega
theorem insO_at (f : Nat → Int) (i : Nat) (out : List Nat) : insO f i out = out.take (insAt f i out) ++ i :: out.drop (insAt f i out) := by
  have h : out = (out.reverse.dropWhile fun j => decide (f i < f j)).reverse ++ (out.reverse.takeWhile fun j => decide (f i < f j)).reverse := by
    rw [← List.reverse_append, List.takeWhile_append_dropWhile, List.reverse_reverse]
  have hl : ((out.reverse.dropWhile fun j => decide (f i < f j)).reverse).length = insAt f i out := by rw [List.length_reverse]; rfl
  have key : ∀ (A B l : List Nat) (k : Nat), l = A ++ B → A.length = k → l.take k = A ∧ l.drop k = B := fun A B l k h1 h2 => by
    subst h1
    exact ⟨List.take_left' h2, List.drop_left' h2⟩
  obtain ⟨h1, h2⟩ := key _ _ _ _ h hl
  rw [insO, h1, h2]
theorem insO_perm (f : Nat → Int) (i : Nat) (out : List Nat) : (insO f i out).Perm (i :: out) := by
  rw [insO_at]
  refine List.perm_middle.trans ?_
  rw [List.take_append_drop]
def orderE (f : Nat → Int) (n : Nat) : List Nat := (List.range n).foldl (fun out i => insO f i out) []
theorem orderE_succ (f : Nat → Int) (n : Nat) : orderE f (n + 1) = insO f n (orderE f n) := by rw [orderE, List.range_succ, List.foldl_append]; rfl
theorem orderE_perm (f : Nat → Int) : ∀ n, (orderE f n).Perm (List.range n)
  | 0 => List.Perm.refl _
  | n + 1 => by
    rw [orderE_succ, List.range_succ]
    exact (insO_perm f n _).trans (((orderE_perm f n).cons n).trans (List.perm_append_singleton n _).symm)
theorem orderE_length (f : Nat → Int) (n : Nat) : (orderE f n).length = n := by rw [(orderE_perm f n).length_eq, List.length_range]
theorem orderE_lt (f : Nat → Int) {n i : Nat} (h : i ∈ orderE f n) : i < n := List.mem_range.1 ((orderE_perm f n).mem_iff.1 h)
/-- the place is found step by step from the right -/
theorem insAt_step {f : Nat → Int} {i : Nat} {out : List Nat} {k : Nat} (hk : k ≤ out.length) (hgt : ∀ j y, k ≤ j → out[j]? = some y → f i < f y) (hle : k = 0 ∨ ∃ y, out[k - 1]? = some y ∧ ¬ f i < f y) : insAt f i out = k := by
  have hsplit : out = out.take k ++ out.drop k := (List.take_append_drop k out).symm
  unfold insAt
  have h1 : ∀ y ∈ (out.drop k).reverse, decide (f i < f y) = true := fun y hy => by
    obtain ⟨j, hj⟩ := List.mem_iff_getElem?.1 (List.mem_reverse.1 hy)
    rw [List.getElem?_drop] at hj
    exact decide_eq_true (hgt _ y (by omega) hj)
  have h2 : (out.reverse.dropWhile fun j => decide (f i < f j)) = (out.take k).reverse := by
    conv => lhs; rw [hsplit]
    rw [List.reverse_append, List.dropWhile_append_of_pos h1]
    rcases hle with rfl | ⟨y, hy, hn⟩
    · simp
    · have hk0 : 0 < k := Nat.pos_of_ne_zero fun e => by
        subst e
        have := hgt 0 y (by omega) (by simpa using hy)
        exact hn this
      have h3 : (out.take k).reverse.head? = some y := by
        rw [List.head?_reverse, List.getLast?_eq_getElem?, List.length_take, Nat.min_eq_left hk, List.getElem?_take_of_lt (by omega)]
        exact hy
      cases hr : (out.take k).reverse with
      | nil => rw [hr] at h3; cases h3
      | cons z t =>
        rw [hr] at h3
        injection h3 with h3
        subst h3
        rw [List.dropWhile_cons_of_neg (by simp; omega)]
  rw [h2, List.length_reverse, List.length_take, Nat.min_eq_left hk]

/-! ### lines that begin with a name -/
def atW : List UInt8 := [32, 97, 116, 32]
theorem name_prefix {a b t : List UInt8} (ha : isNameL a = true) (hb : isNameL b = true) : (a ++ atW).isPrefixOf (b ++ atW ++ t) = decide (a = b) := by
  rw [Bool.eq_iff_iff, List.isPrefixOf_iff_prefix, decide_eq_true_eq]
  constructor
  · rintro ⟨q, h⟩
    have e1 : a ++ atW ++ q = a ++ 32 :: ([97, 116, 32] ++ q) := by simp [atW]
    have e2 : b ++ atW ++ t = b ++ 32 :: ([97, 116, 32] ++ t) := by simp [atW]
    rw [e1, e2] at h
    have h2 := congrArg (partsOf 32) h
    rw [partsOf_cut _ _ (named_clean ha 32 (by decide)), partsOf_cut _ _ (named_clean hb 32 (by decide))] at h2
    injection h2
  · rintro rfl
    exact ⟨t, by simp⟩
/-- each name begins one line -/
theorem one_line {n : Nat} {N : Nat → List UInt8} {T : Nat → List UInt8} {f : Nat → Int} {x : Nat} (hx : x < n) (hN : ∀ i, i < n → isNameL (N i) = true) (hd : ∀ i j, i < n → j < n → N i = N j → i = j) :
    (((orderE f n).map fun i => N i ++ atW ++ T i).filter fun l => (N x ++ atW).isPrefixOf l).length = 1 := by
  rw [List.filter_map, List.length_map]
  have h1 : (orderE f n).filter ((fun l => (N x ++ atW).isPrefixOf l) ∘ fun i => N i ++ atW ++ T i) = (orderE f n).filter fun i => decide (i = x) :=
    List.filter_congr fun i hi => by
      have hin := orderE_lt f hi
      simp only [Function.comp]
      rw [name_prefix (hN x hx) (hN i hin)]
      exact decide_eq_decide.2 ⟨fun e => (hd x i hx hin e).symm, fun e => by rw [e]⟩
  rw [h1, ((orderE_perm f n).filter _).length_eq]
  have h2 : ∀ m, ((List.range m).filter fun i => decide (i = x)).length = if x < m then 1 else 0 := by
    intro m
    induction m with
    | zero => rfl
    | succ m ih =>
      rw [List.range_succ, List.filter_append, List.length_append, ih]
      by_cases hm : m = x
      · subst hm; simp
      · rw [List.filter_cons_of_neg (by simpa using hm)]
        simp only [List.filter_nil, List.length_nil, Nat.add_zero]
        split <;> split <;> omega
  rw [h2, if_pos hx]

/-! ### the legend's text and its lines -/
theorem partsOf_lines : ∀ (ls : List (List UInt8)) (l : List UInt8), (∀ x ∈ ls, ∀ c ∈ x, c ≠ 10) → (∀ c ∈ l, c ≠ 10) → partsOf 10 (ls.flatMap (fun x => x ++ [10]) ++ l) = ls ++ [l]
  | [], l, _, hl => by rw [List.flatMap_nil, List.nil_append, partsOf_plain _ hl, List.nil_append]
  | x :: ls, l, h, hl => by
    have e : (x :: ls).flatMap (fun x => x ++ [10]) ++ l = x ++ 10 :: (ls.flatMap (fun x => x ++ [10]) ++ l) := by simp
    rw [e, partsOf_cut _ _ (h x (by simp)), partsOf_lines ls l (fun y hy => h y (by simp [hy])) hl, List.cons_append]
/-- a text of lines, but for its last end of line, and its lines -/
theorem lines_text {ls : List (List UInt8)} (h0 : ls ≠ []) (h : ∀ x ∈ ls, ∀ c ∈ x, c ≠ 10) : ∃ init, ls.flatMap (fun x => x ++ [10]) = init ++ [10] ∧ partsOf 10 init = ls := by
  obtain ⟨ys, l, rfl⟩ : ∃ ys l, ls = ys ++ [l] := ⟨ls.dropLast, ls.getLast h0, (List.dropLast_concat_getLast h0).symm⟩
  refine ⟨ys.flatMap (fun x => x ++ [10]) ++ l, by simp, ?_⟩
  exact partsOf_lines ys l (fun x hx => h x (by simp [hx])) (h l (by simp))
def linesW : List UInt8 := [32, 108, 105, 110, 101, 115, 32]
def itemsW : List UInt8 := [32, 105, 116, 101, 109, 115, 32]
def beamW : List UInt8 := [98, 101, 97, 109, 32]
def fromW : List UInt8 := [32, 102, 114, 111, 109, 32]
def toW : List UInt8 := [32, 116, 111, 32]
def setLine (nm : List UInt8) (d ln it : Int) : List UInt8 := nm ++ atW ++ (itoa d ++ (linesW ++ (itoa ln ++ (itemsW ++ itoa it))))
def beamLine (nm : List UInt8) (a b : Int) : List UInt8 := beamW ++ nm ++ fromW ++ (itoa a ++ (toW ++ itoa b))
theorem clean_app {a b : List UInt8} (ha : ∀ c ∈ a, c ≠ 10) (hb : ∀ c ∈ b, c ≠ 10) : ∀ c ∈ a ++ b, c ≠ 10 := fun c hc => (List.mem_append.1 hc).elim (ha c) (hb c)
theorem clean_itoa (n : Int) : ∀ c ∈ itoa n, c ≠ 10 := itoa_clean 10 (by decide) (by decide)
theorem clean_setLine {nm : List UInt8} {d ln it : Int} (h : isNameL nm = true) : ∀ c ∈ setLine nm d ln it, c ≠ 10 :=
  clean_app (clean_app (named_clean h 10 (by decide)) (by decide)) (clean_app (clean_itoa _) (clean_app (by decide) (clean_app (clean_itoa _) (clean_app (by decide) (clean_itoa _)))))
theorem clean_beamLine {nm : List UInt8} {a b : Int} (h : isNameL nm = true) : ∀ c ∈ beamLine nm a b, c ≠ 10 :=
  clean_app (clean_app (clean_app (by decide) (named_clean h 10 (by decide))) (by decide)) (clean_app (clean_itoa _) (clean_app (by decide) (clean_itoa _)))
theorem beam_prefix (nm : List UInt8) (a b : Int) : (beamW ++ nm ++ fromW).isPrefixOf (beamLine nm a b) = true := by
  rw [List.isPrefixOf_iff_prefix]
  exact ⟨_, rfl⟩
end Go.Proofs.YtliehhnnfpkciaaGreatDoor
