/- The words of a system's text, numbers and fractions by their texts, and what a text says: in plain Lean. strconv.Atoi and the numerals of numbers: in plain Lean. -/
import Derived.Test.YtgamhdbcejkllaaGreatDoorDigits
import Derived.Test.YtgamhdbcejkllaaGreatDoorSplitLines
import Derived.Lib.AtoiAll
namespace Go.Proofs.YtgamhdbcejkllaaGreatDoor
open Go Go.Lib

/-! ### numbers -/
theorem itoa_of_nat (n : Nat) : itoa (n : Int) = decDigits n := by rw [itoa, if_neg (by omega)]; rfl
theorem itoa_of_neg {n : Int} (h : n < 0) : itoa n = 45 :: decDigits n.natAbs := by rw [itoa, if_pos h]
theorem decDigits_inj {a b : Nat} (h : decDigits a = decDigits b) : a = b := by rw [← valN_dec a, ← valN_dec b, h]
theorem decDigits_head (u : Nat) : (decDigits u).head? ≠ some 45 := fun h => by
  cases hd : decDigits u with
  | nil => rw [hd] at h; cases h
  | cons c t =>
    have hall := decDigits_all u
    rw [hd] at h hall
    injection h with h
    subst h
    simp only [List.all_cons, Bool.and_eq_true] at hall
    have := dig_bounds hall.1
    simp at this
theorem itoa_same_of {a b : Int} (h : itoa a = itoa b) : a = b := by
  by_cases ha : a < 0
  · by_cases hb : b < 0
    · rw [itoa_of_neg ha, itoa_of_neg hb] at h
      injection h with _ h
      have := decDigits_inj h
      omega
    · obtain ⟨n, rfl⟩ : ∃ n : Nat, b = n := ⟨b.toNat, by omega⟩
      rw [itoa_of_neg ha, itoa_of_nat] at h
      exact absurd (by rw [← h]; rfl) (decDigits_head n)
  · obtain ⟨m, rfl⟩ : ∃ m : Nat, a = m := ⟨a.toNat, by omega⟩
    by_cases hb : b < 0
    · rw [itoa_of_neg hb, itoa_of_nat] at h
      exact absurd (by rw [h]; rfl) (decDigits_head m)
    · obtain ⟨n, rfl⟩ : ∃ n : Nat, b = n := ⟨b.toNat, by omega⟩
      rw [itoa_of_nat, itoa_of_nat] at h
      rw [decDigits_inj h]
/-- a numeral has digits and a sign alone -/
theorem itoa_bytes (n : Int) : ∀ c ∈ itoa n, isDig c = true ∨ c = 45 := fun c hc => by
  by_cases h : n < 0
  · rw [itoa_of_neg h] at hc
    rcases List.mem_cons.1 hc with rfl | hc
    · exact Or.inr rfl
    · exact Or.inl (List.all_eq_true.1 (decDigits_all _) c hc)
  · obtain ⟨m, rfl⟩ : ∃ m : Nat, n = m := ⟨n.toNat, by omega⟩
    rw [itoa_of_nat] at hc
    exact Or.inl (List.all_eq_true.1 (decDigits_all _) c hc)
theorem itoa_clean {n : Int} (k : UInt8) (hk : isDig k = false) (h45 : k ≠ 45) : ∀ c ∈ itoa n, c ≠ k := fun c hc e => by
  subst e
  rcases itoa_bytes n c hc with h | h
  · rw [hk] at h; cases h
  · exact h45 h
theorem itoa_some (n : Int) : 0 < (itoa n).length := by
  by_cases h : n < 0
  · rw [itoa_of_neg h]; simp
  · obtain ⟨m, rfl⟩ : ∃ m : Nat, n = m := ⟨n.toNat, by omega⟩
    rw [itoa_of_nat, decDigits_length]
    exact nDigits_pos _
theorem itoa_short {n : Int} (h0 : -100000000 < n) (h1 : n < 1000000000) : (itoa n).length ≤ 10 := by
  by_cases h : n < 0
  · rw [itoa_of_neg h, List.length_cons, decDigits_length]
    have := nDigits_le n.natAbs 8 (by omega)
    omega
  · obtain ⟨m, rfl⟩ : ∃ m : Nat, n = m := ⟨n.toNat, by omega⟩
    rw [itoa_of_nat, decDigits_length]
    have := nDigits_le m 8 (by omega)
    omega
open Classical in
/-- the number that a word of at most 10 bytes is the numeral of -/
noncomputable def numE (w : List UInt8) : Option Int := if h : w.length ≤ 10 ∧ ∃ n, itoa n = w then some h.2.choose else none
theorem numE_itoa {n : Int} (h : (itoa n).length ≤ 10) : numE (itoa n) = some n := by
  have hx : (itoa n).length ≤ 10 ∧ ∃ m, itoa m = itoa n := ⟨h, n, rfl⟩
  rw [numE, dif_pos hx]
  congr 1
  exact itoa_same_of hx.2.choose_spec
theorem numE_some {w : List UInt8} {n : Int} (h : numE w = some n) : itoa n = w ∧ w.length ≤ 10 := by
  unfold numE at h
  split at h
  · rename_i hx
    injection h with h
    subst h
    exact ⟨hx.2.choose_spec, hx.1⟩
  · cases h
theorem numE_iff {w : List UInt8} {n : Int} : numE w = some n ↔ itoa n = w ∧ w.length ≤ 10 :=
  ⟨numE_some, fun ⟨h1, h2⟩ => by subst h1; exact numE_itoa h2⟩
theorem numE_none {w : List UInt8} (h : ∀ n, itoa n = w → ¬ w.length ≤ 10) : numE w = none := by
  cases hn : numE w with
  | none => rfl
  | some n => exact absurd (numE_some hn).2 (h n (numE_some hn).1)

/-! ### fractions -/
def fracL (n d : Int) : List UInt8 := if d = 1 then itoa n else itoa n ++ 47 :: itoa d
theorem fracL_same {n d n' d' : Int} (h : fracL n d = fracL n' d') : n = n' ∧ d = d' := by
  have key : ∀ {n d : Int}, d ≠ 1 → partsOf 47 (fracL n d) = [itoa n, itoa d] := fun {n d} hd => by
    rw [fracL, if_neg hd, partsOf_cut _ _ (itoa_clean 47 (by decide) (by decide)), partsOf_plain _ (itoa_clean 47 (by decide) (by decide))]
  have key1 : ∀ {n : Int}, partsOf 47 (fracL n 1) = [itoa n] := fun {n} => by
    rw [fracL, if_pos rfl, partsOf_plain _ (itoa_clean 47 (by decide) (by decide))]
  have h2 := congrArg (partsOf 47) h
  by_cases hd : d = 1
  · subst hd
    by_cases hd' : d' = 1
    · subst hd'
      rw [key1, key1] at h2
      injection h2 with h2 _
      exact ⟨itoa_same_of h2, rfl⟩
    · rw [key1, key hd'] at h2
      injection h2 with _ h2
      cases h2
  · by_cases hd' : d' = 1
    · subst hd'
      rw [key1, key hd] at h2
      injection h2 with _ h2
      cases h2
    · rw [key hd, key hd'] at h2
      injection h2 with h3 h2
      injection h2 with h4 _
      exact ⟨itoa_same_of h3, itoa_same_of h4⟩
theorem fracL_clean {n d : Int} (k : UInt8) (hk : isDig k = false) (h45 : k ≠ 45) (h47 : k ≠ 47) : ∀ c ∈ fracL n d, c ≠ k := fun c hc => by
  unfold fracL at hc
  split at hc
  · exact itoa_clean k hk h45 c hc
  · rcases List.mem_append.1 hc with hc | hc
    · exact itoa_clean k hk h45 c hc
    · rcases List.mem_cons.1 hc with rfl | hc
      · exact fun e => h47 e.symm
      · exact itoa_clean k hk h45 c hc
open Classical in
/-- the right fraction that a word is the text of ('ok': which fractions are right) -/
noncomputable def fracE (ok : Int → Int → Bool) (w : List UInt8) : Option (Int × Int) := if h : ∃ p : Int × Int, ok p.1 p.2 = true ∧ fracL p.1 p.2 = w then some h.choose else none
theorem fracE_text {ok : Int → Int → Bool} {n d : Int} (h : ok n d = true) : fracE ok (fracL n d) = some (n, d) := by
  have hx : ∃ p : Int × Int, ok p.1 p.2 = true ∧ fracL p.1 p.2 = fracL n d := ⟨(n, d), h, rfl⟩
  rw [fracE, dif_pos hx]
  obtain ⟨h1, h2⟩ := fracL_same hx.choose_spec.2
  congr 1
  exact Prod.ext h1 h2
theorem fracE_some {ok : Int → Int → Bool} {w : List UInt8} {p : Int × Int} (h : fracE ok w = some p) : ok p.1 p.2 = true ∧ fracL p.1 p.2 = w := by
  unfold fracE at h
  split at h
  · rename_i hx
    injection h with h
    subst h
    exact hx.choose_spec
  · cases h
theorem fracE_none {ok : Int → Int → Bool} {w : List UInt8} (h : ∀ n d, ok n d = true → fracL n d ≠ w) : fracE ok w = none := by
  cases hn : fracE ok w with
  | none => rfl
  | some p => exact absurd (fracE_some hn).2 (h _ _ (fracE_some hn).1)

/-! ### what a text says -/
structure HoldP where
  block : List UInt8
  pulls : Int
  num : Int
  den : Int
structure RopeP where
  name : List UInt8
  hauled : Bool
  holds : List HoldP
structure SysP where
  blocks : List (List UInt8 × Int)
  ropes : List RopeP
def wBlock : List UInt8 := [98, 108, 111, 99, 107]
def wRope : List UInt8 := [114, 111, 112, 101]
def wHauled : List UInt8 := [104, 97, 117, 108, 101, 100]
def wFixed : List UInt8 := [102, 105, 120, 101, 100]
def wFree : List UInt8 := [45]
noncomputable def holdE (ok : Int → Int → Bool) (a b c : List UInt8) : Option HoldP :=
  if a = wFree ∨ isNameL a = true then
    match numE b, fracE ok c with
    | some n, some p => some ⟨if a = wFree then [] else a, n, p.1, p.2⟩
    | _, _ => none
  else none
noncomputable def holdsE (ok : Int → Int → Bool) : List (List UInt8) → Option (List HoldP)
  | a :: b :: c :: r => match holdE ok a b c, holdsE ok r with
    | some h, some l => some (h :: l)
    | _, _ => none
  | [] => some []
  | _ => none
noncomputable def blockE : List (List UInt8) → Option (List UInt8 × Int)
  | [_, a, b] => if isNameL a = true then (numE b).map fun n => (a, n) else none
  | _ => none
noncomputable def ropeE (ok : Int → Int → Bool) : List (List UInt8) → Option RopeP
  | _ :: a :: u :: r => if 3 ≤ r.length ∧ r.length % 3 = 0 ∧ isNameL a = true ∧ (u = wHauled ∨ u = wFixed) then (holdsE ok r).map fun l => ⟨a, decide (u = wHauled), l⟩ else none
  | _ => none
noncomputable def lineE (ok : Int → Int → Bool) (s : SysP) (w : List (List UInt8)) : Option SysP :=
  if w.head? = some wBlock ∧ s.ropes = [] then (blockE w).map fun b => { s with blocks := s.blocks ++ [b] }
  else if w.head? = some wRope then (ropeE ok w).map fun r => { s with ropes := s.ropes ++ [r] }
  else none
/-- the lines of a text, the last one empty: the system, or the number of the first line that is wrong -/
noncomputable def linesE (ok : Int → Int → Bool) (s : SysP) (k : Nat) : List (List UInt8) → Except Nat SysP
  | [] => .ok s
  | [l] => if l = [] then .ok s else .error k
  | l :: m :: t => match lineE ok s (partsOf 32 l) with
    | some s' => linesE ok s' (k + 1) (m :: t)
    | none => .error k

/-! ### a system's text says the system -/
theorem named_clean {l : List UInt8} (h : isNameL l = true) (k : UInt8) (hk : wordB k = false) : ∀ c ∈ l, c ≠ k := by
  simp only [isNameL, Bool.and_eq_true, decide_eq_true_eq] at h
  have hw := h.2
  intro c hc e
  subst e
  have key : ∀ l : List UInt8, wordLen l = l.length → ∀ c ∈ l, wordB c = true := by
    intro l
    induction l with
    | nil => intro _ c hc; cases hc
    | cons d l ih =>
      intro hl c hc
      unfold wordLen at hl
      split at hl
      · rename_i hd
        simp only [List.length_cons] at hl
        rcases List.mem_cons.1 hc with rfl | hc
        · exact hd
        · exact ih (by omega) c hc
      · simp at hl
  rw [key l hw c hc] at hk
  cases hk
def blockP (b : List UInt8 × Int) : List UInt8 := wBlock ++ 32 :: (b.1 ++ 32 :: itoa b.2)
def freeP (h : HoldP) : List UInt8 := if h.block = [] then wFree else h.block
def holdP (h : HoldP) : List UInt8 := 32 :: (freeP h ++ 32 :: (itoa h.pulls ++ 32 :: fracL h.num h.den))
def haulP (u : Bool) : List UInt8 := if u then wHauled else wFixed
def ropeP (r : RopeP) : List UInt8 := wRope ++ 32 :: (r.name ++ 32 :: (haulP r.hauled ++ r.holds.flatMap holdP))
def sysP (s : SysP) : List UInt8 := s.blocks.flatMap (fun b => blockP b ++ [10]) ++ s.ropes.flatMap (fun r => ropeP r ++ [10])
structure HoldP.fit (ok : Int → Int → Bool) (h : HoldP) : Prop where
  block : h.block = [] ∨ isNameL h.block = true
  pulls : (itoa h.pulls).length ≤ 10
  frac : ok h.num h.den = true
structure RopeP.fit (ok : Int → Int → Bool) (r : RopeP) : Prop where
  name : isNameL r.name = true
  some : 0 < r.holds.length
  holds : ∀ h ∈ r.holds, h.fit ok
structure SysP.fit (ok : Int → Int → Bool) (s : SysP) : Prop where
  blocks : ∀ b ∈ s.blocks, isNameL b.1 = true ∧ (itoa b.2).length ≤ 10
  ropes : ∀ r ∈ s.ropes, r.fit ok
theorem isNameL_nil : isNameL [] = false := rfl
theorem isNameL_free : isNameL wFree = false := by decide
theorem freeP_clean {ok : Int → Int → Bool} {h : HoldP} (hf : h.fit ok) (k : UInt8) (hk : wordB k = false) (h45 : k ≠ 45) : ∀ c ∈ freeP h, c ≠ k := fun c hc => by
  unfold freeP at hc
  split at hc
  · rw [wFree, List.mem_singleton] at hc; subst hc; exact fun e => h45 e.symm
  · rename_i hb
    exact named_clean (hf.block.resolve_left hb) k hk c hc
theorem holdE_fit {ok : Int → Int → Bool} {h : HoldP} (hf : h.fit ok) : holdE ok (freeP h) (itoa h.pulls) (fracL h.num h.den) = some h := by
  obtain ⟨block, pulls, num, den⟩ := h
  obtain ⟨h1, h2, h3⟩ := hf
  simp only at h1 h2 h3
  unfold holdE freeP
  simp only
  rw [numE_itoa h2, fracE_text h3]
  by_cases hb : block = []
  · subst hb; simp
  · have hn := h1.resolve_left hb
    have hne : block ≠ wFree := fun e => by rw [e, isNameL_free] at hn; cases hn
    simp [hb, hn, hne]
theorem parts_holds {ok : Int → Int → Bool} : ∀ (l : List HoldP) (a : List UInt8), (∀ c ∈ a, c ≠ 32) → (∀ h ∈ l, h.fit ok) →
    partsOf 32 (a ++ l.flatMap holdP) = a :: l.flatMap fun h => [freeP h, itoa h.pulls, fracL h.num h.den]
  | [], a, ha, _ => by rw [List.flatMap_nil, List.append_nil, partsOf_plain a ha]; rfl
  | h :: l, a, ha, hl => by
    have hf := hl h (by simp)
    have e : a ++ (h :: l).flatMap holdP = a ++ 32 :: (freeP h ++ 32 :: (itoa h.pulls ++ 32 :: (fracL h.num h.den ++ l.flatMap holdP))) := by
      simp [holdP, List.append_assoc]
    rw [e, partsOf_cut _ _ ha, partsOf_cut _ _ (freeP_clean hf 32 (by decide) (by decide)), partsOf_cut _ _ (itoa_clean 32 (by decide) (by decide)),
      parts_holds l _ (fracL_clean 32 (by decide) (by decide) (by decide)) (fun h hh => hl h (by simp [hh]))]
    rfl
theorem holdsE_fit {ok : Int → Int → Bool} : ∀ (l : List HoldP), (∀ h ∈ l, h.fit ok) → holdsE ok (l.flatMap fun h => [freeP h, itoa h.pulls, fracL h.num h.den]) = some l
  | [], _ => rfl
  | h :: l, hl => by
    have ih := holdsE_fit l (fun h hh => hl h (by simp [hh]))
    show holdsE ok (freeP h :: itoa h.pulls :: fracL h.num h.den :: l.flatMap _) = _
    rw [holdsE, holdE_fit (hl h (by simp)), ih]
theorem triple_length (l : List HoldP) : (l.flatMap fun h => [freeP h, itoa h.pulls, fracL h.num h.den]).length = 3 * l.length := by
  induction l with
  | nil => rfl
  | cons h l ih => rw [List.flatMap_cons, List.length_append, ih]; simp; omega
theorem lineE_block {ok : Int → Int → Bool} {s : SysP} {b : List UInt8 × Int} (hs : s.ropes = []) (hn : isNameL b.1 = true) (hl : (itoa b.2).length ≤ 10) :
    lineE ok s (partsOf 32 (blockP b)) = some { s with blocks := s.blocks ++ [b] } := by
  have e : partsOf 32 (blockP b) = [wBlock, b.1, itoa b.2] := by
    rw [blockP, partsOf_cut _ _ (by decide), partsOf_cut _ _ (named_clean hn 32 (by decide)), partsOf_plain _ (itoa_clean 32 (by decide) (by decide))]
  rw [e, lineE, if_pos ⟨rfl, hs⟩, blockE, if_pos hn, numE_itoa hl]
  rfl
theorem lineE_rope {ok : Int → Int → Bool} {s : SysP} {r : RopeP} (hr : r.fit ok) : lineE ok s (partsOf 32 (ropeP r)) = some { s with ropes := s.ropes ++ [r] } := by
  obtain ⟨name, hauled, holds⟩ := r
  obtain ⟨h1, h2, h3⟩ := hr
  simp only at h1 h2 h3
  have hu : ∀ c ∈ haulP hauled, c ≠ 32 := by cases hauled <;> decide
  have e : partsOf 32 (ropeP ⟨name, hauled, holds⟩) = wRope :: name :: haulP hauled :: holds.flatMap fun h => [freeP h, itoa h.pulls, fracL h.num h.den] := by
    rw [ropeP, partsOf_cut _ _ (by decide), partsOf_cut _ _ (named_clean h1 32 (by decide)), parts_holds holds _ hu h3]
  have hc : 3 ≤ (holds.flatMap fun h => [freeP h, itoa h.pulls, fracL h.num h.den]).length ∧ (holds.flatMap fun h => [freeP h, itoa h.pulls, fracL h.num h.den]).length % 3 = 0 ∧ isNameL name = true ∧ (haulP hauled = wHauled ∨ haulP hauled = wFixed) := by
    rw [triple_length]
    refine ⟨by omega, by omega, h1, ?_⟩
    cases hauled
    · exact Or.inr rfl
    · exact Or.inl rfl
  rw [e, lineE, if_neg (fun h => by have := h.1; simp [wRope, wBlock] at this), if_pos (show (wRope :: name :: haulP hauled :: holds.flatMap fun h => [freeP h, itoa h.pulls, fracL h.num h.den]).head? = some wRope from rfl), ropeE, if_pos hc, holdsE_fit holds h3]
  have hd : decide (haulP hauled = wHauled) = hauled := by cases hauled <;> decide
  rw [hd]
  rfl
theorem linesE_cons {ok : Int → Int → Bool} {s s' : SysP} {k : Nat} {l : List UInt8} {t : List UInt8} (hp : ∀ c ∈ l, c ≠ 10) (h : lineE ok s (partsOf 32 l) = some s') :
    linesE ok s k (partsOf 10 (l ++ 10 :: t)) = linesE ok s' (k + 1) (partsOf 10 t) := by
  obtain ⟨m, q, e⟩ := partsOf_ne 10 t
  rw [partsOf_cut _ _ hp, e, linesE, h]
theorem clean_blockP {b : List UInt8 × Int} (hn : isNameL b.1 = true) : ∀ c ∈ blockP b, c ≠ 10 := fun c hc => by
  unfold blockP at hc
  rcases List.mem_append.1 hc with hc | hc
  · exact (show ∀ c ∈ wBlock, c ≠ 10 by decide) c hc
  rcases List.mem_cons.1 hc with rfl | hc
  · decide
  rcases List.mem_append.1 hc with hc | hc
  · exact named_clean hn 10 (by decide) c hc
  rcases List.mem_cons.1 hc with rfl | hc
  · decide
  exact itoa_clean 10 (by decide) (by decide) c hc
theorem clean_holdP {ok : Int → Int → Bool} {h : HoldP} (hf : h.fit ok) : ∀ c ∈ holdP h, c ≠ 10 := fun c hc => by
  unfold holdP at hc
  rcases List.mem_cons.1 hc with rfl | hc
  · decide
  rcases List.mem_append.1 hc with hc | hc
  · exact freeP_clean hf 10 (by decide) (by decide) c hc
  rcases List.mem_cons.1 hc with rfl | hc
  · decide
  rcases List.mem_append.1 hc with hc | hc
  · exact itoa_clean 10 (by decide) (by decide) c hc
  rcases List.mem_cons.1 hc with rfl | hc
  · decide
  exact fracL_clean 10 (by decide) (by decide) (by decide) c hc
theorem clean_ropeP {ok : Int → Int → Bool} {r : RopeP} (hr : r.fit ok) : ∀ c ∈ ropeP r, c ≠ 10 := fun c hc => by
  unfold ropeP at hc
  rcases List.mem_append.1 hc with hc | hc
  · exact (show ∀ c ∈ wRope, c ≠ 10 by decide) c hc
  rcases List.mem_cons.1 hc with rfl | hc
  · decide
  rcases List.mem_append.1 hc with hc | hc
  · exact named_clean hr.name 10 (by decide) c hc
  rcases List.mem_cons.1 hc with rfl | hc
  · decide
  rcases List.mem_append.1 hc with hc | hc
  · exact (show ∀ u, ∀ c ∈ haulP u, c ≠ 10 by intro u; cases u <;> decide) _ c hc
  obtain ⟨h, hh, hc⟩ := List.mem_flatMap.1 hc
  exact clean_holdP (hr.holds h hh) c hc
theorem linesE_ropes {ok : Int → Int → Bool} : ∀ (l : List RopeP) (s : SysP) (k : Nat), (∀ r ∈ l, r.fit ok) → linesE ok s k (partsOf 10 (l.flatMap fun r => ropeP r ++ [10])) = .ok { s with ropes := s.ropes ++ l }
  | [], s, k, _ => by rw [List.flatMap_nil, partsOf_plain _ (by simp), linesE, if_pos rfl, List.append_nil]
  | r :: l, s, k, h => by
    have e : (r :: l).flatMap (fun r => ropeP r ++ [10]) = ropeP r ++ 10 :: l.flatMap (fun r => ropeP r ++ [10]) := by simp
    rw [e, linesE_cons (clean_ropeP (h r (by simp))) (lineE_rope (h r (by simp))), linesE_ropes l _ _ (fun r hr => h r (by simp [hr]))]
    simp
theorem linesE_blocks {ok : Int → Int → Bool} : ∀ (l : List (List UInt8 × Int)) (s : SysP) (k : Nat) (t : List UInt8), s.ropes = [] → (∀ b ∈ l, isNameL b.1 = true ∧ (itoa b.2).length ≤ 10) →
    linesE ok s k (partsOf 10 (l.flatMap (fun b => blockP b ++ [10]) ++ t)) = linesE ok { s with blocks := s.blocks ++ l } (k + l.length) (partsOf 10 t)
  | [], s, k, t, _, _ => by simp
  | b :: l, s, k, t, hs, h => by
    obtain ⟨h1, h2⟩ := h b (by simp)
    have e : (b :: l).flatMap (fun b => blockP b ++ [10]) ++ t = blockP b ++ 10 :: (l.flatMap (fun b => blockP b ++ [10]) ++ t) := by simp
    have ih := linesE_blocks (ok := ok) l { s with blocks := s.blocks ++ [b] } (k + 1) t hs (fun b hb => h b (by simp [hb]))
    rw [e, linesE_cons (clean_blockP h1) (lineE_block hs h1 h2), ih]
    simp [Nat.add_assoc, Nat.add_comm 1]
/-- the text of a fit system says the system -/
theorem linesE_text {ok : Int → Int → Bool} {s : SysP} (h : s.fit ok) : linesE ok ⟨[], []⟩ 1 (partsOf 10 (sysP s)) = .ok s := by
  rw [sysP, linesE_blocks s.blocks ⟨[], []⟩ 1 _ rfl h.blocks, linesE_ropes s.ropes _ _ h.ropes]
  simp
end Go.Proofs.YtgamhdbcejkllaaGreatDoor
namespace Go.Proofs.YtgamhdbcejkllaaGreatDoor
open Go Go.Lib

theorem parse10_digits : ∀ (l : List UInt8) (acc : Nat), l.all isDig = true → valN acc l < 18446744073709551616 → parseUint10 acc l = .ok (valN acc l)
  | [], acc, _, _ => by rw [valN_nil]; rfl
  | c :: r, acc, hd, hb => by
    simp only [List.all_cons, Bool.and_eq_true] at hd
    have hc := dig_bounds hd.1
    rw [valN_cons] at hb ⊢
    have h2 := valN_ge r (10 * acc + (c.toNat - 48))
    have e : acc * 10 + (c.toNat - 48) = 10 * acc + (c.toNat - 48) := by omega
    rw [parseUint10, if_pos hc, if_neg (by omega), if_neg (by omega), e]
    exact parse10_digits r _ hd.2 hb
theorem parseMag_dec {u : Nat} (h : u < 18446744073709551616) : parseMag (decDigits u) = .ok u := by
  have hne : decDigits u ≠ [] := fun e => by
    have := nDigits_pos u
    rw [← decDigits_length, e] at this
    simp at this
  rw [parseMag, if_neg hne, parse10_digits _ 0 (decDigits_all u) (by rw [valN_dec]; exact h), valN_dec]
theorem atoiAll_itoa {n : Int} (h0 : -9223372036854775808 ≤ n) (h1 : n ≤ 9223372036854775807) : atoiAll (itoa n) = .ok n := by
  by_cases h : n < 0
  · rw [itoa_of_neg h, atoiAll]
    have e : parseMag (if (45 : UInt8).toNat = 43 ∨ (45 : UInt8).toNat = 45 then decDigits n.natAbs else 45 :: decDigits n.natAbs) = .ok n.natAbs := by
      rw [if_pos (Or.inr (by decide)), parseMag_dec (by omega)]
    simp only [e]
    rw [if_neg (by simp), if_neg (by omega)]
    simp
    omega
  · obtain ⟨m, rfl⟩ : ∃ m : Nat, n = m := ⟨n.toNat, by omega⟩
    rw [itoa_of_nat]
    cases hd : decDigits m with
    | nil => have := nDigits_pos m; rw [← decDigits_length, hd] at this; simp at this
    | cons c r =>
      have hc : 48 ≤ c.toNat ∧ c.toNat ≤ 57 := by
        have hall := decDigits_all m
        rw [hd] at hall
        simp only [List.all_cons, Bool.and_eq_true] at hall
        exact dig_bounds hall.1
      have h3 : ¬ (c.toNat = 43 ∨ c.toNat = 45) := by omega
      have h4 : ¬ c.toNat = 45 := by omega
      have e : parseMag (if c.toNat = 43 ∨ c.toNat = 45 then r else c :: r) = .ok m := by rw [if_neg h3, ← hd, parseMag_dec (by omega)]
      rw [atoiAll]
      simp only [e]
      rw [if_neg (by omega), if_neg (by omega)]
      simp [h4]
theorem itoa_bound {n : Int} (h : (itoa n).length ≤ 10) : -10000000000 < n ∧ n < 10000000000 := by
  by_cases hn : n < 0
  · rw [itoa_of_neg hn, List.length_cons, decDigits_length] at h
    have h1 := lt_pow_nDigits n.natAbs
    have h2 : 10 ^ nDigits n.natAbs ≤ 10 ^ 9 := Nat.pow_le_pow_right (by decide) (by omega)
    omega
  · obtain ⟨m, rfl⟩ : ∃ m : Nat, n = m := ⟨n.toNat, by omega⟩
    rw [itoa_of_nat, decDigits_length] at h
    have h1 := lt_pow_nDigits m
    have h2 : 10 ^ nDigits m ≤ 10 ^ 10 := Nat.pow_le_pow_right (by decide) h
    omega
/-- what reeving.number answers, from what Atoi says -/
theorem numE_ok {w : List UInt8} {v : Int} (h : atoiAll w = .ok v) : numE w = if w.length ≤ 10 ∧ itoa v = w then some v else none := by
  split
  · rename_i hx
    exact numE_iff.2 ⟨hx.2, hx.1⟩
  · rename_i hx
    refine numE_none fun n hn hl => hx ⟨hl, ?_⟩
    subst hn
    have hb := itoa_bound hl
    rw [atoiAll_itoa (by omega) (by omega)] at h
    injection h with h
    rw [h]
theorem numE_bad {w : List UInt8} (h : ∀ v, atoiAll w ≠ .ok v) : numE w = none :=
  numE_none fun n hn hl => by
    subst hn
    have hb := itoa_bound hl
    exact h n (atoiAll_itoa (by omega) (by omega))
theorem numE_small {w : List UInt8} {n : Int} (h : numE w = some n) : -10000000000 < n ∧ n < 10000000000 := by
  obtain ⟨h1, h2⟩ := numE_some h
  subst h1
  exact itoa_bound h2
/-! ### fractions: the parts before and behind the first '/' -/
theorem frac_parts {n d : Int} (hd : d ≠ 1) : fracL n d = itoa n ++ 47 :: itoa d ∧ (∀ c ∈ itoa n, c ≠ 47) := ⟨by rw [fracL, if_neg hd], itoa_clean 47 (by decide) (by decide)⟩
theorem frac_whole {n : Int} : fracL n 1 = itoa n ∧ (∀ c ∈ fracL n 1, c ≠ 47) := by
  have : fracL n 1 = itoa n := by rw [fracL, if_pos rfl]
  exact ⟨this, by rw [this]; exact itoa_clean 47 (by decide) (by decide)⟩
/-- with a '/': both numerals -/
theorem fracE_cut {ok : Int → Int → Bool} (hok : ∀ n d, ok n d = true → (-1152921504606846976 ≤ n ∧ n ≤ 1152921504606846976) ∧ 1 ≤ d ∧ d ≤ 1152921504606846976) {a b : List UInt8} (ha : ∀ c ∈ a, c ≠ 47) {v u : Int} (hv : atoiAll a = .ok v) (hu : atoiAll b = .ok u) :
    fracE ok (a ++ 47 :: b) = if ok v u = true ∧ fracL v u = a ++ 47 :: b then some (v, u) else none := by
  split
  · rename_i hx
    rw [← hx.2]
    exact fracE_text hx.1
  · rename_i hx
    refine fracE_none fun n d h1 h2 => hx ?_
    obtain ⟨h3, h4⟩ := hok n d h1
    have key : n = v ∧ d = u := by
      by_cases hd : d = 1
      · subst hd
        have := (frac_whole (n := n)).2 47 (by rw [h2]; simp)
        exact absurd rfl this
      · obtain ⟨h5, h6⟩ := frac_parts (n := n) hd
        rw [h5] at h2
        have h7 := congrArg (partsOf 47) h2
        rw [partsOf_cut _ _ h6, partsOf_cut _ _ ha, partsOf_plain _ (itoa_clean 47 (by decide) (by decide))] at h7
        injection h7 with h8 h9
        have h10 : b = itoa d := by
          have := congrArg (fun l => l) h2
          rw [h8] at this
          have := List.append_cancel_left this
          injection this with _ this
          exact this.symm
        rw [← h8, atoiAll_itoa (by omega) (by omega)] at hv
        rw [h10, atoiAll_itoa (by omega) (by omega)] at hu
        injection hv with hv
        injection hu with hu
        exact ⟨hv, hu⟩
    obtain ⟨rfl, rfl⟩ := key
    exact ⟨h1, h2⟩
theorem fracE_cut_bad {ok : Int → Int → Bool} (hok : ∀ n d, ok n d = true → (-1152921504606846976 ≤ n ∧ n ≤ 1152921504606846976) ∧ 1 ≤ d ∧ d ≤ 1152921504606846976) {a b : List UInt8} (ha : ∀ c ∈ a, c ≠ 47) (h : (∀ v, atoiAll a ≠ .ok v) ∨ (∀ u, atoiAll b ≠ .ok u)) : fracE ok (a ++ 47 :: b) = none := by
  refine fracE_none fun n d h1 h2 => ?_
  obtain ⟨h3, h4⟩ := hok n d h1
  by_cases hd : d = 1
  · subst hd
    have := (frac_whole (n := n)).2 47 (by rw [h2]; simp)
    exact absurd rfl this
  · obtain ⟨h5, h6⟩ := frac_parts (n := n) hd
    rw [h5] at h2
    have h7 := congrArg (partsOf 47) h2
    rw [partsOf_cut _ _ h6, partsOf_cut _ _ ha] at h7
    injection h7 with h8 _
    rw [h8] at h2
    have h9 := List.append_cancel_left h2
    injection h9 with _ h9
    rcases h with h | h
    · exact h n (by rw [← h8]; exact atoiAll_itoa (by omega) (by omega))
    · exact h d (by rw [← h9]; exact atoiAll_itoa (by omega) (by omega))
/-- without a '/': one numeral -/
theorem fracE_whole {ok : Int → Int → Bool} (hok : ∀ n d, ok n d = true → (-1152921504606846976 ≤ n ∧ n ≤ 1152921504606846976) ∧ 1 ≤ d ∧ d ≤ 1152921504606846976) {w : List UInt8} (hw : ∀ c ∈ w, c ≠ 47) {v : Int} (hv : atoiAll w = .ok v) :
    fracE ok w = if ok v 1 = true ∧ fracL v 1 = w then some (v, 1) else none := by
  split
  · rename_i hx
    rw [← hx.2]
    exact fracE_text hx.1
  · rename_i hx
    refine fracE_none fun n d h1 h2 => hx ?_
    obtain ⟨h3, h4⟩ := hok n d h1
    by_cases hd : d = 1
    · subst hd
      rw [(frac_whole).1] at h2
      rw [← h2, atoiAll_itoa (by omega) (by omega)] at hv
      injection hv with hv
      subst hv
      exact ⟨h1, by rw [(frac_whole).1, h2]⟩
    · rw [(frac_parts hd).1] at h2
      exact absurd rfl (hw 47 (by rw [← h2]; simp))
theorem fracE_whole_bad {ok : Int → Int → Bool} (hok : ∀ n d, ok n d = true → (-1152921504606846976 ≤ n ∧ n ≤ 1152921504606846976) ∧ 1 ≤ d ∧ d ≤ 1152921504606846976) {w : List UInt8} (hw : ∀ c ∈ w, c ≠ 47) (h : ∀ v, atoiAll w ≠ .ok v) : fracE ok w = none := by
  refine fracE_none fun n d h1 h2 => ?_
  obtain ⟨h3, h4⟩ := hok n d h1
  by_cases hd : d = 1
  · subst hd
    rw [(frac_whole).1] at h2
    exact h n (by rw [← h2]; exact atoiAll_itoa (by omega) (by omega))
  · rw [(frac_parts hd).1] at h2
    exact absurd rfl (hw 47 (by rw [← h2]; simp))
end Go.Proofs.YtgamhdbcejkllaaGreatDoor
