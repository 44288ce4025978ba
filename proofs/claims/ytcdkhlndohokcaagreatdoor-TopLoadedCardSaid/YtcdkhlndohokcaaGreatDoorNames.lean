/- Bytes of names: what letter, digit, word and IsName compute, in the program and in the references. -/
import Derived.Test.YtcdkhlndohokcaaGreatDoorProg
import Derived.Test.YtcdkhlndohokcaaGreatDoorBase
namespace Go.Proofs.YtcdkhlndohokcaaGreatDoor
open Go.RowKit

def letterB (c : Int) : Bool := (decide (97 ≤ c) && decide (c ≤ 122)) || (decide (65 ≤ c) && decide (c ≤ 90))
def digitB (c : Int) : Bool := decide (48 ≤ c) && decide (c ≤ 57)
def wordB (c : UInt8) : Bool := letterB (c.toNat : Int) || digitB (c.toNat : Int) || decide ((c.toNat : Int) = 95)
def wordLen : List UInt8 → Nat
  | [] => 0
  | c :: l => if wordB c then wordLen l + 1 else 0
def isNameL (l : List UInt8) : Bool := !l.isEmpty && decide (l.length ≤ 20) && letterB ((l.headD 0).toNat : Int) && decide (wordLen l = l.length)
def isName (s : ByteArray) : Bool := isNameL (bs s)

theorem wordLen_le (l : List UInt8) : wordLen l ≤ l.length := by
  induction l with
  | nil => simp [wordLen]
  | cons c l ih => unfold wordLen; split <;> simp <;> omega
theorem wordLen_spec : ∀ (l : List UInt8) (k : Nat), (∀ j, j < k → ∃ c, l[j]? = some c ∧ wordB c = true) → (∀ c, l[k]? = some c → wordB c = false) → k ≤ l.length → wordLen l = k
  | [], k, _, _, hk => by simp [wordLen] at *; omega
  | c :: l, 0, _, h, _ => by simp [wordLen, h c rfl]
  | c :: l, k + 1, h, h', hk => by
    obtain ⟨c', hc', hw⟩ := h 0 (by omega)
    simp at hc'
    subst hc'
    simp only [wordLen, hw, if_true]
    rw [wordLen_spec l k (fun j hj => by simpa using h (j + 1) (by omega)) (fun c hc => h' c (by simpa using hc)) (by simpa using hk)]

/-- k bytes from a place on are those of a word -/
def WordTo (l : List UInt8) (i k : Nat) : Prop := ∀ j, i ≤ j → j < k → ∃ c, l[j]? = some c ∧ wordB c = true
theorem WordTo.start (l : List UInt8) (i : Nat) : WordTo l i i := fun j h1 h2 => by omega
theorem WordTo.next {s : ByteArray} {i k : Nat} (h : WordTo (bs s) i k) (hk : k < s.size) (hw : wordB s[k] = true) : WordTo (bs s) i (k + 1) := fun j h1 h2 => by
  by_cases e : j = k
  · subst e; exact ⟨_, bs_get s j hk, hw⟩
  · exact h j h1 (by omega)
theorem WordTo.len {l : List UInt8} {i k : Nat} (h : WordTo l i k) (hi : i ≤ k) (hk : k ≤ l.length) (hn : ∀ c, l[k]? = some c → wordB c = false) : i + wordLen (l.drop i) = k := by
  rw [wordLen_spec (l.drop i) (k - i) (fun j hj => by simpa using h (i + j) (by omega) (by omega)) (fun c hc => hn c (by rw [List.getElem?_drop] at hc; rw [← hc]; congr 1; omega)) (by simp; omega)]
  omega
theorem wordB_of_letter {c : UInt8} (h : letterB (c.toNat : Int) = true) : wordB c = true := by simp [wordB, h]
theorem wordB_of_digit {c : UInt8} (h : digitB (c.toNat : Int) = true) : wordB c = true := by simp [wordB, h]
theorem wordB_of_95 {c : UInt8} (h : ((c.toNat : Int) == 95) = true) : wordB c = true := by simp only [beq_iff_eq] at h; simp [wordB, h]
theorem not_wordB {c : UInt8} (h1 : ¬ letterB (c.toNat : Int) = true) (h2 : ¬ digitB (c.toNat : Int) = true) (h3 : ((c.toNat : Int) == 95) = false) : wordB c = false := by
  simp only [beq_eq_false_iff_ne] at h3; simp [wordB, h1, h2, h3]

theorem byte_lt (c : UInt8) : (0 : Int) ≤ (c.toNat : Int) ∧ (c.toNat : Int) ≤ 255 := by have := c.toNat_lt; omega

section letters
set_option maxHeartbeats 400000
theorem letter_any (c : Int) (w : World) : Calls Tryz.prog 74 #[.int .u8 c] w (Gives w (.bool (letterB c))) := by
  go_enter Tryz.func74, Tryz.ntmps74
  go_wp2
  all_goals
    go_ret
    exact Gives.mk (congrArg Value.bool (by rw [Bool.eq_iff_iff]; simp [letterB]; omega)) (Below.refl _ _)
theorem digit_any (c : Int) (w : World) : Calls Tryz.prog 99 #[.int .u8 c] w (Gives w (.bool (digitB c))) := by
  go_enter Tryz.func99, Tryz.ntmps99
  go_wp2
  all_goals
    go_ret
    exact Gives.mk (congrArg Value.bool (by rw [Bool.eq_iff_iff]; simp [digitB]; try omega)) (Below.refl _ _)
end letters

section words
set_option maxHeartbeats 400000 in
theorem word_any (s : ByteArray) (w : World) (hs : s.size ≤ maxLen) : Calls Tryz.prog 75 #[.string s] w (Gives w (.int .i64 (wordLen (bs s)))) := by
  unfold maxLen at hs
  go_enter Tryz.func75, Tryz.ntmps75
  go_wp2
  go_loopw [3] (fun v wr => ∃ k : Nat, v = .int .i64 k ∧ 0 ≤ k ∧ k ≤ s.size ∧ WordTo (bs s) 0 k ∧ ∃ x : After w.heap.size w, wr = x.val) (fun v _ => s.size - (intOf v).toNat)
  case atStart => exact ⟨0, rfl, Nat.le_refl _, by omega, WordTo.start _ _, After.refl _ _, rfl⟩
  case round =>
    obtain ⟨k, rfl, hik, hk, hall, x, rfl⟩ := hrel
    have HALL := hide hall
    clear hall
    by_cases hlt : k < s.size
    · go_wp2_with (first | (go_at_call 74; refine (Gives.after (Nat.le_refl _) (letter_any _ _)).mono ?_; rintro e w' ⟨rfl, x, rfl⟩) | (go_at_call 99; refine (Gives.after (Nat.le_refl _) (digit_any _ _)).mono ?_; rintro e w' ⟨rfl, x, rfl⟩))
      · exact ⟨⟨k + 1, by go_num, by omega, by omega, HALL.out.next hlt (wordB_of_letter ‹_›), _, rfl⟩, by simp [intOf]; omega⟩
      · exact ⟨⟨k + 1, by go_num, by omega, by omega, HALL.out.next hlt (wordB_of_digit ‹_›), _, rfl⟩, by simp [intOf]; omega⟩
      · exact ⟨⟨k + 1, by go_num, by omega, by omega, HALL.out.next hlt (wordB_of_95 ‹_›), _, rfl⟩, by simp [intOf]; omega⟩
      · go_ret
        have hw := not_wordB (c := s[k]) ‹_› ‹_› ‹_›
        have hr := HALL.out.len hik (by rw [bs_length]; omega) (fun c hc => by rw [bs_get s k hlt] at hc; injection hc with hc; rw [← hc]; exact hw)
        exact Gives.mk (congrArg (Value.int IntKind.i64) (by (try simp only [List.drop_zero] at hr); omega)) x.below
    · go_wp2
      go_ret
      have hr := HALL.out.len hik (by rw [bs_length]; omega) (fun c hc => by have hq := (List.getElem?_eq_some_iff.1 hc).1; rw [bs_length] at hq; omega)
      exact Gives.mk (congrArg (Value.int IntKind.i64) (by (try simp only [List.drop_zero] at hr); omega)) x.below
end words

section names
theorem isName_empty (s : ByteArray) (h : s.size = 0) : isName s = false := by
  have : bs s = [] := List.eq_nil_of_length_eq_zero (by rw [bs_length]; exact h)
  simp [isName, isNameL, this]
theorem isName_eq (s : ByteArray) (h : 0 < s.size) : isName s = (decide (s.size ≤ 20) && letterB (s[0].toNat : Int) && decide (wordLen (bs s) = s.size)) := by
  have h0 := bs_get s 0 h
  have hl := bs_length s
  unfold isName isNameL
  cases hb : bs s with
  | nil => rw [hb] at hl; simp at hl; omega
  | cons c l =>
    rw [hb] at h0 hl
    simp only [List.getElem?_cons_zero, Option.some.injEq] at h0
    subst h0
    simp [← hl]
theorem isName_yes {s : ByteArray} {b : Bool} (h : 0 < s.size) (h1 : (s.size : Int) ≤ 20) (h2 : letterB (s[0].toNat : Int) = true) (hb : b = ((wordLen (bs s) : Int) == (s.size : Int))) : b = isName s := by
  rw [isName_eq s h, h2, decide_eq_true (show s.size ≤ 20 by omega), hb, Bool.eq_iff_iff]
  simp only [beq_iff_eq, Bool.and_self, Bool.true_and, decide_eq_true_eq]
  omega
theorem isName_long {s : ByteArray} (h : 20 < (s.size : Int)) : isName s = false := by
  rw [isName_eq s (by omega), decide_eq_false (by omega)]; rfl
theorem isName_no {s : ByteArray} (h : 0 < s.size) (h2 : ¬ letterB (s[0].toNat : Int) = true) : isName s = false := by
  rw [isName_eq s h]; simp [h2]
set_option maxHeartbeats 400000 in
theorem isName_any (s : ByteArray) (w : World) (hs : s.size ≤ maxLen) : Calls Tryz.prog 57 #[.string s] w (Gives w (.bool (isName s))) := by
  have hs' := hs
  unfold maxLen at hs
  rcases Nat.eq_zero_or_pos s.size with h0 | h0
  · have HE := hide (isName_empty s h0)
    have hn : s.toList = [] := toList_nil h0
    go_enter Tryz.func57, Tryz.ntmps57
    go_wp2
    go_ret
    exact Gives.mk (congrArg Value.bool HE.out.symm) (Below.refl _ _)
  · have hn := toList_isEmpty h0
    have hn' := toList_ne h0
    go_enter Tryz.func57, Tryz.ntmps57
    go_wp2_with (first | (go_at_call 74; refine (Gives.first (letter_any _ _)).mono ?_; rintro e w' ⟨rfl, x, rfl⟩) | (go_at_call 75; refine (Gives.after (Nat.le_refl _) (word_any _ _ hs')).mono ?_; rintro e w' ⟨rfl, x, rfl⟩))
    · go_ret
      exact Gives.mk (congrArg Value.bool (isName_yes h0 ‹_› ‹_› (by simp))) (After.below _)
    · go_ret
      exact Gives.mk (congrArg Value.bool (isName_no h0 ‹_›).symm) (After.below _)
    · go_ret
      exact Gives.mk (congrArg Value.bool (isName_long ‹_›).symm) (Below.refl _ _)
end names
end Go.Proofs.YtcdkhlndohokcaaGreatDoor
