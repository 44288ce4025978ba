/- What a log and its ledger are, in plain Lean. -/
import Derived.Test.YtemlaliackblkaaDoorDigits
import Derived.Test.YtemlaliackblkaaDoorSplitLines
namespace Go.Proofs.YtemlaliackblkaaDoor
open Go Go.RowKit

structure LogD where
  day : Int
  rope : ByteArray
  kind : Int
  runs : Int
instance : Inhabited LogD := ⟨⟨0, ⟨#[]⟩, 0, 0⟩⟩
def LogD.cells (x : LogD) : List Value := [.int .i64 x.day, .string x.rope, .int .i64 x.kind, .int .i64 x.runs]
structure LogD.ok (x : LogD) : Prop where
  day : I64 x.day
  rope : x.rope.size ≤ maxLen
  kind : I64 x.kind
  runs : I64 x.runs
def sameName (a b : ByteArray) : Bool := a.toList == b.toList
theorem sameName_iff {a b : ByteArray} : sameName a b = true ↔ a = b := ⟨fun h => bs_inj (by simpa [sameName, bs] using h), fun h => by subst h; simp [sameName]⟩
theorem sameName_refl (a : ByteArray) : sameName a a = true := sameName_iff.2 rfl
theorem sameName_false {a b : ByteArray} : sameName a b = false ↔ a ≠ b := by rw [← Bool.not_eq_true, sameName_iff]

/-! ### valid logs -/
def runsOk (x : LogD) : Bool := if x.kind = 3 then decide (1 ≤ x.runs) && decide (x.runs ≤ 1000000) else decide (x.runs = 0)
def dayOk (n : Int) : Bool := decide (0 ≤ n) && decide (n ≤ 109572)
def kindOk (n : Int) : Bool := decide (1 ≤ n) && decide (n ≤ 4)
/-- whether the last entry of a rope retires it -/
def goneStep (nm : ByteArray) (b : Bool) (x : LogD) : Bool := if sameName x.rope nm then decide (x.kind = 4) else b
def gone (l : List LogD) (nm : ByteArray) : Bool := l.foldl (goneStep nm) false
theorem gone_next {l : List LogD} {k : Nat} {x : LogD} (nm : ByteArray) (h : l[k]? = some x) : gone (l.take (k + 1)) nm = goneStep nm (gone (l.take k) nm) x := by
  rw [List.take_add_one, h]; simp [gone, List.foldl_append]
theorem gone_snoc (l : List LogD) (x : LogD) (nm : ByteArray) : gone (l ++ [x]) nm = goneStep nm (gone l nm) x := by simp [gone, List.foldl_append]
def dayTo (l : List LogD) (k : Nat) : Int := if k = 0 then 0 else (l.getD (k - 1) default).day
theorem dayTo_next {l : List LogD} {k : Nat} {x : LogD} (h : l[k]? = some x) : dayTo l (k + 1) = x.day := by
  unfold dayTo
  rw [if_neg (by omega), Nat.add_sub_cancel, List.getD, h]; rfl
def entryAt (l : List LogD) (i : Nat) (x : LogD) : Bool := dayOk x.day && decide (dayTo l i ≤ x.day) && isName x.rope && kindOk x.kind && runsOk x && (decide (x.kind = 2) || !gone (l.take i) x.rope)
def logOk (l : List LogD) : Bool := decide (l.length ≤ 1000) && allIdx (entryAt l) l
theorem dayTo_append (l : List LogD) (x : LogD) {i : Nat} (h : i ≤ l.length) : dayTo (l ++ [x]) i = dayTo l i := by
  unfold dayTo
  split
  · rfl
  · rw [List.getD, List.getD, List.getElem?_append_left (by omega)]
theorem entryAt_append (l : List LogD) (x y : LogD) {i : Nat} (h : i ≤ l.length) : entryAt (l ++ [x]) i y = entryAt l i y := by
  unfold entryAt
  rw [dayTo_append l x h, List.take_append_of_le_length h]
theorem logOk_snoc (l : List LogD) (x : LogD) : logOk (l ++ [x]) = (logOk l && decide (l.length + 1 ≤ 1000) && entryAt l l.length x) := by
  rw [Bool.eq_iff_iff]
  simp only [logOk, Bool.and_eq_true, decide_eq_true_eq, List.length_append, List.length_singleton, allIdx_iff]
  constructor
  · rintro ⟨h1, h2⟩
    refine ⟨⟨⟨by omega, fun j y hy => ?_⟩, h1⟩, ?_⟩
    · have hj := (List.getElem?_eq_some_iff.1 hy).1
      have := h2 j y (by rw [List.getElem?_append_left hj]; exact hy)
      rwa [entryAt_append l x y (by omega)] at this
    · have := h2 l.length x (by simp)
      rwa [entryAt_append l x x (Nat.le_refl _)] at this
  · rintro ⟨⟨⟨_, h2⟩, h1⟩, h3⟩
    refine ⟨h1, fun j y hy => ?_⟩
    have hj : j < l.length + 1 := by have := (List.getElem?_eq_some_iff.1 hy).1; simpa using this
    by_cases e : j = l.length
    · subst e
      have : x = y := by simpa using hy
      subst this
      rwa [entryAt_append l x x (Nat.le_refl _)]
    · rw [List.getElem?_append_left (by omega)] at hy
      rw [entryAt_append l x y (by omega)]
      exact h2 j y hy
/-- the reference's way to say so: the last entry that retires or replaces -/
def refGoneStep (nm : ByteArray) (b : Bool) (x : LogD) : Bool := if sameName x.rope nm && (decide (x.kind = 2) || decide (x.kind = 4)) then decide (x.kind = 4) else b
def refGone (l : List LogD) (nm : ByteArray) : Bool := l.foldl (refGoneStep nm) false
theorem refGone_next {l : List LogD} {k : Nat} {x : LogD} (nm : ByteArray) (h : l[k]? = some x) : refGone (l.take (k + 1)) nm = refGoneStep nm (refGone (l.take k) nm) x := by
  rw [List.take_add_one, h]; simp [refGone, List.foldl_append]
theorem refGone_gone {l : List LogD} (nm : ByteArray) : ∀ k : Nat, k ≤ l.length → UpTo (entryAt l) l k → refGone (l.take k) nm = gone (l.take k) nm
  | 0, _, _ => rfl
  | k + 1, hk, h => by
    have hx : l[k]? = some l[k] := List.getElem?_eq_getElem (by omega)
    have ih := refGone_gone nm k (by omega) (fun j y hj hy => h j y (by omega) hy)
    rw [refGone_next nm hx, gone_next nm hx, ih]
    have he := h k _ (by omega) hx
    unfold refGoneStep goneStep
    cases hs : sameName l[k].rope nm
    · simp
    · have e := sameName_iff.1 hs
      by_cases h2 : l[k].kind = 2
      · simp [h2]
      · by_cases h4 : l[k].kind = 4
        · simp [h4]
        · simp only [h2, h4, decide_false, Bool.or_self, Bool.and_false, Bool.false_eq_true, if_false, if_true]
          simp only [entryAt, Bool.and_eq_true, h2, decide_false, Bool.false_or, Bool.not_eq_true'] at he
          rw [← e]; exact he.2

/-! ### the bytes of a ledger -/
def sumStep (n : Nat) (b : UInt8) : Nat := (31 * n + b.toNat + 1) % 4294967296
def sumE (l : List UInt8) : Nat := l.foldl sumStep 7
theorem sumE_next {l : List UInt8} {k : Nat} {b : UInt8} (h : l[k]? = some b) : sumE (l.take (k + 1)) = sumStep (sumE (l.take k)) b := by
  rw [List.take_add_one, h]; simp [sumE, List.foldl_append]
theorem sumE_snoc (l : List UInt8) (b : UInt8) : sumE (l ++ [b]) = sumStep (sumE l) b := by simp [sumE, List.foldl_append]
theorem foldSum_lt : ∀ (l : List UInt8) (n : Nat), n < 4294967296 → l.foldl sumStep n < 4294967296
  | [], _, h => h
  | b :: l, n, _ => foldSum_lt l _ (Nat.mod_lt _ (by decide))
theorem sumE_lt (l : List UInt8) : sumE l < 4294967296 := foldSum_lt l 7 (by decide)
def headE (x : LogD) : List UInt8 := Lib.itoa x.day ++ 32 :: (bs x.rope ++ 32 :: (Lib.itoa x.kind ++ 32 :: (Lib.itoa x.runs ++ [32])))
def recE (before : List UInt8) (x : LogD) : List UInt8 := headE x ++ (Lib.itoa (sumE (before ++ headE x)) ++ [10])
def encStep (out : List UInt8) (x : LogD) : List UInt8 := out ++ recE out x
def encE (l : List LogD) : List UInt8 := l.foldl encStep []
theorem encE_next {l : List LogD} {k : Nat} {x : LogD} (h : l[k]? = some x) : encE (l.take (k + 1)) = encE (l.take k) ++ recE (encE (l.take k)) x := by
  rw [List.take_add_one, h]; simp [encE, List.foldl_append, encStep]
theorem encE_snoc (l : List LogD) (x : LogD) : encE (l ++ [x]) = encE l ++ recE (encE l) x := by simp [encE, List.foldl_append, encStep]

/-! ### words and numbers -/
def intOk (l : List UInt8) : Bool := allDig l && decide (l.length ≤ 15) && !(decide (1 < l.length) && l.head? == some 48)
def intV (l : List UInt8) : Int := (valN 0 l : Nat)
theorem itoa_nat (n : Nat) : Lib.itoa (n : Int) = Lib.decDigits n := by rw [Lib.itoa, if_neg (by omega)]; rfl
theorem itoa_intV {l : List UInt8} (h : intOk l = true) : Lib.itoa (intV l) = l := by
  simp only [intOk, Bool.and_eq_true, decide_eq_true_eq, Bool.not_eq_true'] at h
  rw [intV, itoa_nat]
  exact dec_val h.1.1 h.2
theorem intV_bound {l : List UInt8} (h : intOk l = true) : 0 ≤ intV l ∧ intV l < 1000000000000000 := by
  simp only [intOk, Bool.and_eq_true, decide_eq_true_eq] at h
  have h1 := valN_lt l (all_of_allDig h.1.1)
  have h2 : 10 ^ l.length ≤ 10 ^ 15 := Nat.pow_le_pow_right (by decide) h.1.2
  unfold intV
  omega
theorem intOk_itoa {n : Int} (h0 : 0 ≤ n) (h1 : n < 1000000000000000) : intOk (Lib.itoa n) = true ∧ intV (Lib.itoa n) = n := by
  obtain ⟨m, rfl⟩ : ∃ m : Nat, n = m := ⟨n.toNat, by omega⟩
  rw [itoa_nat, intV, valN_dec]
  refine ⟨?_, rfl⟩
  have hl : (Lib.decDigits m).length ≤ 15 := by rw [Lib.decDigits_length]; exact nDigits_le m 14 (by omega)
  have hh : (decide (1 < (Lib.decDigits m).length) && (Lib.decDigits m).head? == some 48) = false := by
    by_cases h : 1 < (Lib.decDigits m).length
    · have := dec_head m h
      simp [this]
    · simp [h]
  rw [intOk, allDig_dec, hh, decide_eq_true hl]; rfl
theorem digs_plain {l : List UInt8} (h : l.all isDig = true) (k : UInt8) (hk : isDig k = false) : ∀ c ∈ l, c ≠ k := fun c hc e => by
  have := List.all_eq_true.1 h c hc
  rw [e, hk] at this; cases this
theorem itoa_plain {n : Int} (h : 0 ≤ n) (k : UInt8) (hk : isDig k = false) : ∀ c ∈ Lib.itoa n, c ≠ k := by
  obtain ⟨m, rfl⟩ : ∃ m : Nat, n = m := ⟨n.toNat, by omega⟩
  rw [itoa_nat]
  exact digs_plain (decDigits_all m) k hk
def joinP (k : UInt8) : List (List UInt8) → List UInt8
  | [] => []
  | [a] => a
  | a :: b :: r => a ++ k :: joinP k (b :: r)
theorem joinP_parts (k : UInt8) : ∀ l : List UInt8, joinP k (partsOf k l) = l
  | [] => rfl
  | c :: l => by
    have ih := joinP_parts k l
    obtain ⟨h, t, e⟩ := partsOf_ne k l
    by_cases hc : c = k
    · rw [partsOf, if_pos hc, e]
      rw [e] at ih
      rw [joinP, List.nil_append, ih, hc]
    · rw [partsOf, if_neg hc, e]
      rw [e] at ih
      simp only
      cases t with
      | nil => rw [joinP] at ih ⊢; rw [ih]
      | cons b r => rw [joinP] at ih ⊢; rw [List.cons_append, ih]
theorem name_plain {l : List UInt8} (h : isNameL l = true) (k : UInt8) (hk : wordB k = false) : ∀ c ∈ l, c ≠ k := by
  simp only [isNameL, Bool.and_eq_true, decide_eq_true_eq] at h
  have hw := h.2
  intro c hc e
  subst e
  have key : ∀ l : List UInt8, wordLen l = l.length → ∀ c ∈ l, wordB c = true := by
    intro l
    induction l with
    | nil => intro _ c hc; cases hc
    | cons d l ih =>
      intro hl c hc
      unfold wordLen at hl
      split at hl
      · rename_i hd
        rcases List.mem_cons.1 hc with rfl | hc
        · exact hd
        · exact ih (by simpa using hl) c hc
      · simp at hl
  rw [key l hw c hc] at hk
  cases hk
/-- the entry of a line, and its last word -/
def entryE (line : List UInt8) : Option (LogD × Int) :=
  match partsOf 32 line with
  | [a, b, c, d, e] => if isNameL b && intOk a && intOk c && intOk d && intOk e then some (⟨intV a, ⟨b.toArray⟩, intV c, intV d⟩, intV e) else none
  | _ => none
/-- the fields of an entry that was read -/
structure Small (x : LogD) : Prop where
  day : 0 ≤ x.day ∧ x.day < 1000000000000000
  kind : 0 ≤ x.kind ∧ x.kind < 1000000000000000
  runs : 0 ≤ x.runs ∧ x.runs < 1000000000000000
  name : isName x.rope = true
theorem bs_toArray (l : List UInt8) : bs ⟨l.toArray⟩ = l := by rw [bs_data]
theorem entryE_shape {line : List UInt8} {x : LogD} {s : Int} (h : entryE line = some (x, s)) : line = headE x ++ Lib.itoa s ∧ Small x ∧ 0 ≤ s ∧ s < 1000000000000000 := by
  unfold entryE at h
  split at h
  · rename_i a b c d e hp
    split at h
    · rename_i hc
      simp only [Bool.and_eq_true] at hc
      obtain ⟨⟨⟨⟨h1, h2⟩, h3⟩, h4⟩, h5⟩ := hc
      simp only [Option.some.injEq, Prod.mk.injEq] at h
      obtain ⟨rfl, rfl⟩ := h
      have hj := joinP_parts 32 line
      rw [hp] at hj
      simp only [joinP] at hj
      refine ⟨?_, ⟨intV_bound h2, intV_bound h3, intV_bound h4, by rw [isName, bs_toArray]; exact h1⟩, intV_bound h5⟩
      simp only [headE]
      rw [itoa_intV h2, itoa_intV h3, itoa_intV h4, itoa_intV h5, bs_toArray, ← hj]
      simp
    · cases h
  · cases h
theorem entryE_of {x : LogD} {s : Int} (hx : Small x) (h0 : 0 ≤ s) (h1 : s < 1000000000000000) : entryE (headE x ++ Lib.itoa s) = some (x, s) := by
  have d32 : isDig 32 = false := by decide
  have e : headE x ++ Lib.itoa s = Lib.itoa x.day ++ 32 :: (bs x.rope ++ 32 :: (Lib.itoa x.kind ++ 32 :: (Lib.itoa x.runs ++ 32 :: Lib.itoa s))) := by simp [headE]
  unfold entryE
  rw [e, partsOf_cut _ _ (itoa_plain hx.day.1 32 d32), partsOf_cut _ _ (name_plain hx.name 32 (by decide)), partsOf_cut _ _ (itoa_plain hx.kind.1 32 d32), partsOf_cut _ _ (itoa_plain hx.runs.1 32 d32), partsOf_plain _ (itoa_plain h0 32 d32)]
  obtain ⟨a1, a2⟩ := intOk_itoa hx.day.1 hx.day.2
  obtain ⟨b1, b2⟩ := intOk_itoa hx.kind.1 hx.kind.2
  obtain ⟨c1, c2⟩ := intOk_itoa hx.runs.1 hx.runs.2
  obtain ⟨e1, e2⟩ := intOk_itoa h0 h1
  simp only [show isNameL (bs x.rope) = true from hx.name, a1, b1, c1, e1, Bool.and_self, if_true, a2, b2, c2, e2]
  have : (⟨(bs x.rope).toArray⟩ : ByteArray) = x.rope := bs_inj (bs_toArray _)
  rw [this]

/-! ### the good records -/
inductive Out where
  | stop (e : Int)
  | next (x : LogD) (n : Nat)
def stepE (b : List UInt8) (at_ : Nat) (l : List LogD) : Out :=
  match (b.drop at_).findIdx? (fun c => c == 10) with
  | none => .stop 7
  | some n => match entryE ((b.drop at_).take n) with
    | none => .stop 7
    | some (x, s) => if (sumE (b.take at_ ++ headE x) : Int) = s then (if logOk (l ++ [x]) = true then .next x (n + 1) else .stop 1) else .stop 18
/-- the places that the reading comes to, with what has been read -/
inductive Reach (b : List UInt8) : Nat → List LogD → Prop where
  | start : Reach b 0 []
  | next {at_ : Nat} {l : List LogD} {x : LogD} {n : Nat} : Reach b at_ l → at_ < b.length → stepE b at_ l = .next x n → Reach b (at_ + n) (l ++ [x])
/-- where it ends, and with which error -/
def Ends (b : List UInt8) (at_ : Nat) (l : List LogD) (e : Int) : Prop := Reach b at_ l ∧ (at_ = b.length ∧ e = 0 ∨ at_ < b.length ∧ stepE b at_ l = .stop e)
theorem stepE_next {b : List UInt8} {at_ : Nat} {l : List LogD} {x : LogD} {n : Nat} (h : stepE b at_ l = .next x n) : ∃ m s, n = m + 1 ∧ (b.drop at_).findIdx? (fun c => c == 10) = some m ∧ entryE ((b.drop at_).take m) = some (x, s) ∧ (sumE (b.take at_ ++ headE x) : Int) = s ∧ logOk (l ++ [x]) = true := by
  unfold stepE at h
  split at h
  · cases h
  · rename_i m hm
    split at h
    · cases h
    · rename_i y s he
      split at h
      · rename_i hs
        split at h
        · rename_i ho
          injection h with h1 h2
          subst h1
          exact ⟨m, s, h2.symm, hm, he, hs, ho⟩
        · cases h
      · cases h
theorem find10 {l : List UInt8} {m : Nat} (h : l.findIdx? (fun c => c == 10) = some m) : m < l.length ∧ l = l.take m ++ 10 :: l.drop (m + 1) ∧ (∀ c ∈ l.take m, c ≠ 10) := by
  rw [List.findIdx?_eq_some_iff_getElem] at h
  obtain ⟨hm, h1, h2⟩ := h
  refine ⟨hm, ?_, fun c hc => ?_⟩
  · have : l[m] = 10 := by simpa using h1
    rw [← this]; simp
  · obtain ⟨j, hj, e⟩ := List.getElem_of_mem hc
    rw [List.length_take] at hj
    have := h2 j (by omega)
    rw [List.getElem_take] at e
    rw [e] at this
    simpa using this
theorem stepE_rec {b : List UInt8} {at_ : Nat} {l : List LogD} {x : LogD} {n : Nat} (h : stepE b at_ l = .next x n) : (b.drop at_).take n = recE (b.take at_) x ∧ at_ + n ≤ b.length ∧ Small x ∧ 0 < n := by
  obtain ⟨m, s, rfl, hm, he, hs, _⟩ := stepE_next h
  obtain ⟨h1, h2, _⟩ := find10 hm
  obtain ⟨e1, e2, _, _⟩ := entryE_shape he
  rw [List.length_drop] at h1
  refine ⟨?_, by omega, e2, by omega⟩
  conv => lhs; rw [h2]
  rw [List.take_append, List.take_of_length_le (by simp; omega)]
  have : m + 1 - ((b.drop at_).take m).length = 1 := by rw [List.length_take, List.length_drop]; omega
  rw [this, e1, recE, hs]
  simp
theorem Reach.le {b : List UInt8} {at_ : Nat} {l : List LogD} (h : Reach b at_ l) : at_ ≤ b.length := by
  cases h with
  | start => exact Nat.zero_le _
  | next _ _ hs => exact (stepE_rec hs).2.1
theorem Reach.ok {b : List UInt8} {at_ : Nat} {l : List LogD} (h : Reach b at_ l) : logOk l = true := by
  cases h with
  | start => rfl
  | next _ _ hs => obtain ⟨_, _, _, _, _, _, h⟩ := stepE_next hs; exact h
theorem Reach.enc {b : List UInt8} {at_ : Nat} {l : List LogD} (h : Reach b at_ l) : b.take at_ = encE l := by
  induction h with
  | start => rfl
  | next hr hl hs ih =>
    obtain ⟨h1, h2, _, _⟩ := stepE_rec hs
    rw [encE_snoc, ← ih, ← h1, List.take_add]
/-- the reading is one: two ways to the same number of entries are the same -/
theorem Reach.step {b : List UInt8} {at_ : Nat} {l : List LogD} (h : Reach b at_ l) : (at_ = 0 ∧ l = []) ∨ ∃ a' l' x n, Reach b a' l' ∧ a' < b.length ∧ stepE b a' l' = .next x n ∧ at_ = a' + n ∧ l = l' ++ [x] := by
  cases h with
  | start => exact Or.inl ⟨rfl, rfl⟩
  | next hr hl hs => exact Or.inr ⟨_, _, _, _, hr, hl, hs, rfl, rfl⟩
theorem Reach.same {b : List UInt8} : ∀ (k : Nat) {at_ a2 : Nat} {l l2 : List LogD}, Reach b at_ l → Reach b a2 l2 → l.length = k → l2.length = k → at_ = a2 ∧ l = l2
  | 0, at_, a2, l, l2, h, h2, hk, hk2 => by
    rcases h.step with ⟨rfl, rfl⟩ | ⟨_, _, _, _, _, _, _, _, rfl⟩
    · rcases h2.step with ⟨rfl, rfl⟩ | ⟨_, _, _, _, _, _, _, _, rfl⟩
      · exact ⟨rfl, rfl⟩
      · simp at hk2
    · simp at hk
  | k + 1, at_, a2, l, l2, h, h2, hk, hk2 => by
    rcases h.step with ⟨rfl, rfl⟩ | ⟨a', l', x, n, hr, _, hs, rfl, rfl⟩
    · simp at hk
    · rcases h2.step with ⟨rfl, rfl⟩ | ⟨b', m', y, n', hr', _, hs', rfl, rfl⟩
      · simp at hk2
      · obtain ⟨rfl, rfl⟩ := Reach.same k hr hr' (by simpa using hk) (by simpa using hk2)
        rw [hs] at hs'
        injection hs' with e1 e2
        subst e1 e2
        exact ⟨rfl, rfl⟩
theorem Reach.longer {b : List UInt8} {at_ a2 : Nat} {l l2 : List LogD} {e : Int} (h : Ends b at_ l e) (h2 : Reach b a2 l2) : l2.length ≤ l.length := by
  induction h2 with
  | start => exact Nat.zero_le _
  | next hr hl hs ih =>
    rcases Nat.lt_or_ge (_ : List LogD).length l.length with hlt | hge
    · rw [List.length_append, List.length_singleton]; exact hlt
    · obtain ⟨rfl, rfl⟩ := Reach.same _ hr h.1 rfl (by omega)
      rcases h.2 with ⟨e1, _⟩ | ⟨_, e1⟩
      · omega
      · rw [hs] at e1; cases e1
theorem Ends.same {b : List UInt8} {at_ a2 : Nat} {l l2 : List LogD} {e e2 : Int} (h : Ends b at_ l e) (h2 : Ends b a2 l2 e2) : at_ = a2 ∧ l = l2 ∧ e = e2 := by
  have h3 := Reach.longer h h2.1
  have h4 := Reach.longer h2 h.1
  obtain ⟨rfl, rfl⟩ := Reach.same _ h.1 h2.1 rfl (by omega)
  refine ⟨rfl, rfl, ?_⟩
  rcases h.2 with ⟨a, rfl⟩ | ⟨a, b1⟩
  · rcases h2.2 with ⟨_, rfl⟩ | ⟨c, _⟩
    · rfl
    · omega
  · rcases h2.2 with ⟨c, _⟩ | ⟨_, d⟩
    · omega
    · rw [b1] at d; injection d
end Go.Proofs.YtemlaliackblkaaDoor
