/- The tokens of a text, in plain Lean. -/
import Derived.Lib.Bytealg
import Derived.Test.YtcdkhlndohokcaaGreatDoorDecNum
namespace Go.Proofs.YtcdkhlndohokcaaGreatDoor
open Go

/-- how many digits a text begins with -/
def digLen : List UInt8 → Nat
  | [] => 0
  | c :: l => if isDig c then digLen l + 1 else 0
theorem digLen_le (l : List UInt8) : digLen l ≤ l.length := by
  induction l with
  | nil => simp [digLen]
  | cons c l ih => unfold digLen; split <;> simp <;> omega
theorem digLen_spec : ∀ (l : List UInt8) (k : Nat), (∀ j, j < k → ∃ c, l[j]? = some c ∧ isDig c = true) → (∀ c, l[k]? = some c → isDig c = false) → k ≤ l.length → digLen l = k
  | [], k, _, _, hk => by simp [digLen] at *; omega
  | c :: l, 0, _, h, _ => by simp [digLen, h c rfl]
  | c :: l, k + 1, h, h', hk => by
    obtain ⟨c', hc', hw⟩ := h 0 (by omega)
    simp at hc'
    subst hc'
    simp only [digLen, hw, if_true]
    rw [digLen_spec l k (fun j hj => by simpa using h (j + 1) (by omega)) (fun c hc => h' c (by simpa using hc)) (by simpa using hk)]
/-- a point, and a digit behind it -/
def pointAt (l : List UInt8) (i : Nat) : Bool := l[i]? == some 46 && (match l[i + 1]? with | some c => isDig c | none => false)
def numLen (l : List UInt8) : Nat := if pointAt l (digLen l) then digLen l + 1 + digLen (l.drop (digLen l + 1)) else digLen l
def alone : List UInt8 := [45, 43, 58, 44, 59, 47, 61, 40, 41, 60, 62, 42]
def twoB (l : List UInt8) : Bool := [62, 61].isPrefixOf l || [60, 61].isPrefixOf l || [58, 61].isPrefixOf l
def oneB (c : UInt8) : Bool := alone.contains c
/-- the length of the symbol that a text begins with -/
def symLen (l : List UInt8) : Nat := if twoB l then 2 else if oneB (l.headD 0) then 1 else 0
/-- how many bytes there are before the end of the line -/
def comLen : List UInt8 → Nat
  | [] => 0
  | c :: l => if c = 10 then 0 else comLen l + 1
theorem comLen_le (l : List UInt8) : comLen l ≤ l.length := by
  induction l with
  | nil => simp [comLen]
  | cons c l ih => unfold comLen; split <;> simp <;> omega
theorem comLen_spec : ∀ (l : List UInt8) (k : Nat), (∀ j, j < k → ∃ c, l[j]? = some c ∧ c ≠ 10) → (∀ c, l[k]? = some c → c = 10) → k ≤ l.length → comLen l = k
  | [], k, _, _, hk => by simp [comLen] at *; omega
  | c :: l, 0, _, h, _ => by simp [comLen, h c rfl]
  | c :: l, k + 1, h, h', hk => by
    obtain ⟨c', hc', hw⟩ := h 0 (by omega)
    simp at hc'
    subst hc'
    simp only [comLen, hw, if_false]
    rw [comLen_spec l k (fun j hj => by simpa using h (j + 1) (by omega)) (fun c hc => h' c (by simpa using hc)) (by simpa using hk)]
theorem comLen_index (l : List UInt8) : Lib.indexByte l 10 = if comLen l < l.length then (comLen l : Int) else -1 := by
  induction l with
  | nil => simp [comLen, Lib.indexByte]
  | cons c l ih =>
    by_cases hc : c = 10
    · subst hc; simp [comLen, Lib.indexByte]
    · have hb : (c == 10) = false := by simpa using hc
      simp only [Lib.indexByte, comLen, hb, hc, if_false, ih, List.length_cons]
      by_cases h : comLen l < l.length
      · simp [h]
      · simp [h]

inductive Tk where
  | blank (n : Nat)
  | line
  | tok (kind : Int) (n : Nat)
  | bad
/-- what a text begins with -/
def nextTk : List UInt8 → Tk
  | [] => .bad
  | c :: l =>
    if c = 32 ∨ c = 9 then .blank 1
    else if c = 10 then .line
    else if c = 35 then .blank (comLen (c :: l))
    else if letterB (c.toNat : Int) then (if wordLen (c :: l) ≤ 20 then .tok 1 (wordLen (c :: l)) else .bad)
    else if isDig c then .tok 2 (numLen (c :: l))
    else if symLen (c :: l) = 0 then .bad else .tok 3 (symLen (c :: l))
structure TokD where
  kind : Int
  text : ByteArray
  line : Int
  col : Int
inductive TRes where
  | good (l : List TokD)
  | bad (line col : Int)
def toksF : Nat → List TokD → List UInt8 → Int → Int → TRes
  | 0, _, _, _, _ => .bad 0 0
  | _ + 1, acc, [], line, col => .good (acc ++ [⟨5, ⟨#[]⟩, line, col⟩])
  | f + 1, acc, c :: l, line, col =>
    match nextTk (c :: l) with
    | .blank n => toksF f acc ((c :: l).drop n) line (col + n)
    | .line => toksF f (acc ++ [⟨4, ⟨#[]⟩, line, col⟩]) l (line + 1) 1
    | .tok k n => toksF f (acc ++ [⟨k, ⟨((c :: l).take n).toArray⟩, line, col⟩]) ((c :: l).drop n) line (col + n)
    | .bad => .bad line col
/-- what Tokens returns: the tokens, or the place of the error -/
def toks (l : List UInt8) : TRes := toksF (l.length + 1) [] l 1 1

theorem numLen_pos {c : UInt8} {l : List UInt8} (h : isDig c = true) : 1 ≤ numLen (c :: l) := by
  have : 1 ≤ digLen (c :: l) := by simp [digLen, h]
  unfold numLen
  split <;> omega
theorem numLen_le (l : List UInt8) : numLen l ≤ l.length := by
  unfold numLen
  split
  · rename_i h
    have h1 := digLen_le (l.drop (digLen l + 1))
    have : digLen l < l.length := by
      unfold pointAt at h
      rw [Bool.and_eq_true] at h
      have := h.1
      rw [beq_iff_eq] at this
      exact (List.getElem?_eq_some_iff.1 this).1
    rw [List.length_drop] at h1
    omega
  · exact digLen_le l
theorem wordLen_pos {c : UInt8} {l : List UInt8} (h : letterB (c.toNat : Int) = true) : 1 ≤ wordLen (c :: l) := by simp [wordLen, wordB, h]
theorem isPrefixOf_length : ∀ (p l : List UInt8), p.isPrefixOf l = true → p.length ≤ l.length
  | [], l, _ => by simp
  | c :: p, [], h => by simp [List.isPrefixOf] at h
  | c :: p, d :: l, h => by
    simp only [List.isPrefixOf, Bool.and_eq_true] at h
    have := isPrefixOf_length p l h.2
    simp; omega
theorem symLen_le {c : UInt8} {l : List UInt8} : symLen (c :: l) ≤ (c :: l).length := by
  unfold symLen
  split
  · rename_i h
    unfold twoB at h
    simp only [Bool.or_eq_true] at h
    rcases h with (h | h) | h <;> exact isPrefixOf_length _ _ h
  · split <;> simp

/-- the tokens of l, behind acc, are R -/
def ToksTo (R : TRes) (acc : List TokD) (l : List UInt8) (line col : Int) : Prop := ∃ f, l.length < f ∧ toksF f acc l line col = R
section
variable {R : TRes} {acc : List TokD} {l : List UInt8} {line col : Int}
theorem ToksTo.start (l : List UInt8) : ToksTo (toks l) [] l 1 1 := ⟨l.length + 1, Nat.lt_succ_self _, rfl⟩
theorem ToksTo.blank {n : Nat} (h : ToksTo R acc l line col) (h0 : 0 < l.length) (hk : nextTk l = .blank n) (hn : 1 ≤ n) : ToksTo R acc (l.drop n) line (col + n) := by
  obtain ⟨f, hf, e⟩ := h
  cases l with
  | nil => simp at h0
  | cons c l =>
    cases f with
    | zero => simp at hf
    | succ f =>
      rw [toksF, hk] at e
      exact ⟨f, by simp only [List.length_drop, List.length_cons] at hf ⊢; omega, e⟩
theorem ToksTo.tok {k : Int} {n : Nat} (h : ToksTo R acc l line col) (h0 : 0 < l.length) (hk : nextTk l = .tok k n) (hn : 1 ≤ n) : ToksTo R (acc ++ [⟨k, ⟨(l.take n).toArray⟩, line, col⟩]) (l.drop n) line (col + n) := by
  obtain ⟨f, hf, e⟩ := h
  cases l with
  | nil => simp at h0
  | cons c l =>
    cases f with
    | zero => simp at hf
    | succ f =>
      rw [toksF, hk] at e
      exact ⟨f, by simp only [List.length_drop, List.length_cons] at hf ⊢; omega, e⟩
theorem ToksTo.lineEnd (h : ToksTo R acc l line col) (h0 : 0 < l.length) (hk : nextTk l = .line) : ToksTo R (acc ++ [⟨4, ⟨#[]⟩, line, col⟩]) (l.drop 1) (line + 1) 1 := by
  obtain ⟨f, hf, e⟩ := h
  cases l with
  | nil => simp at h0
  | cons c l =>
    cases f with
    | zero => simp at hf
    | succ f =>
      rw [toksF, hk] at e
      exact ⟨f, by simp only [List.length_drop, List.length_cons] at hf ⊢; omega, e⟩
theorem ToksTo.bad (h : ToksTo R acc l line col) (h0 : 0 < l.length) (hk : nextTk l = .bad) : R = .bad line col := by
  obtain ⟨f, hf, e⟩ := h
  cases l with
  | nil => simp at h0
  | cons c l =>
    cases f with
    | zero => simp at hf
    | succ f =>
      rw [toksF, hk] at e
      exact e.symm
theorem ToksTo.done (h : ToksTo R acc l line col) (h0 : l.length = 0) : R = .good (acc ++ [⟨5, ⟨#[]⟩, line, col⟩]) := by
  obtain ⟨f, hf, e⟩ := h
  cases l with
  | cons c l => simp at h0
  | nil =>
    cases f with
    | zero => simp at hf
    | succ f => rw [toksF] at e; exact e.symm
end
theorem bs_cons {s : ByteArray} (h0 : 0 < s.size) : ∃ l, bs s = s[0] :: l := by
  have := bs_get s 0 h0
  cases hb : bs s with
  | nil => rw [hb] at this; simp at this
  | cons c l => rw [hb] at this; simp at this; exact ⟨l, by rw [this]⟩
theorem byte_test (c : UInt8) (n : Nat) (hn : n < 256) : (c = UInt8.ofNat n) ↔ ((c.toNat : Int) == (n : Int)) = true := by
  rw [beq_iff_eq]
  have e : (UInt8.ofNat n).toNat = n := UInt8.toNat_ofNat_of_lt' (by simpa [UInt8.size] using hn)
  constructor
  · intro h; rw [h, e]
  · intro h; exact UInt8.toNat_inj.1 (by rw [e]; omega)
/-- what a text begins with, told by the tests of its first byte -/
theorem nextTk_at {s : ByteArray} (h0 : 0 < s.size) : nextTk (bs s) =
    if (((s[0].toNat : Int) == 32) || ((s[0].toNat : Int) == 9)) = true then .blank 1
    else if ((s[0].toNat : Int) == 10) = true then .line
    else if ((s[0].toNat : Int) == 35) = true then .blank (comLen (bs s))
    else if letterB (s[0].toNat : Int) = true then (if wordLen (bs s) ≤ 20 then .tok 1 (wordLen (bs s)) else .bad)
    else if digitB (s[0].toNat : Int) = true then .tok 2 (numLen (bs s))
    else if symLen (bs s) = 0 then .bad else .tok 3 (symLen (bs s)) := by
  obtain ⟨l, hl⟩ := bs_cons h0
  rw [hl]
  have e32 := byte_test s[0] 32 (by decide)
  have e9 := byte_test s[0] 9 (by decide)
  have e10 := byte_test s[0] 10 (by decide)
  have e35 := byte_test s[0] 35 (by decide)
  unfold nextTk isDig
  simp only [Bool.or_eq_true]
  congr 1
  · exact propext (or_congr e32 e9)
  · congr 1
    · exact propext e10
    · congr 1
      exact propext e35
end Go.Proofs.YtcdkhlndohokcaaGreatDoor
