/- The texts of tokens, joined by blanks, have the same tokens: in plain Lean. -/
import Derived.Test.YtplblogdgbnbdaaDoorDecRefNext
namespace Go.Proofs.YtplblogdgbnbdaaDoor
open Go

/-- the tokens of a text without their places -/
inductive TK : List UInt8 → List (Int × List UInt8) → Prop
  | done : TK [] [(5, [])]
  | blank {l : List UInt8} {ts : List (Int × List UInt8)} {n : Nat} : nextTk l = .blank n → 1 ≤ n → TK (l.drop n) ts → TK l ts
  | line {l : List UInt8} {ts : List (Int × List UInt8)} : nextTk l = .line → TK (l.drop 1) ts → TK l ((4, []) :: ts)
  | tok {l : List UInt8} {ts : List (Int × List UInt8)} {k : Int} {n : Nat} : nextTk l = .tok k n → 1 ≤ n → TK (l.drop n) ts → TK l ((k, l.take n) :: ts)
def TokD.bare (t : TokD) : Int × List UInt8 := (t.kind, bs t.text)
theorem nextTk_tok {c : UInt8} {l : List UInt8} {k : Int} {n : Nat} (h : nextTk (c :: l) = .tok k n) : (k = 1 ∨ k = 2 ∨ k = 3) ∧ 1 ≤ n ∧ n ≤ (c :: l).length := by
  rw [nextTk_E] at h
  have hc : (nextE c (c :: l)).1 = -1 ∨ ((nextE c (c :: l)).1 = 0 ∨ (nextE c (c :: l)).1 = 1 ∨ (nextE c (c :: l)).1 = 2 ∨ (nextE c (c :: l)).1 = 3 ∨ (nextE c (c :: l)).1 = 4) ∧ 1 ≤ (nextE c (c :: l)).2 ∧ (nextE c (c :: l)).2 ≤ (c :: l).length := by
    have hlen : 1 ≤ (c :: l).length := by simp
    have h1 := comLen_le (c :: l)
    have h2 := wordLen_le (c :: l)
    have h3 := numLen_le (c :: l)
    have h4 := symLen_le (c := c) (l := l)
    unfold nextE
    split
    · exact Or.inr ⟨Or.inl rfl, Nat.le_refl _, hlen⟩
    · split
      · exact Or.inr ⟨Or.inr (Or.inr (Or.inr (Or.inr rfl))), Nat.le_refl _, hlen⟩
      · split
        · rename_i h
          have : c = 35 := (byte_test c 35 (by decide)).2 h
          exact Or.inr ⟨Or.inl rfl, by rw [this]; simp [comLen], h1⟩
        · split
          · rename_i hl
            split
            · exact Or.inr ⟨Or.inr (Or.inl rfl), wordLen_pos hl, h2⟩
            · exact Or.inl rfl
          · split
            · rename_i hd
              exact Or.inr ⟨Or.inr (Or.inr (Or.inl rfl)), numLen_pos hd, h3⟩
            · split
              · exact Or.inl rfl
              · exact Or.inr ⟨Or.inr (Or.inr (Or.inr (Or.inl rfl))), by omega, h4⟩
  generalize nextE c (c :: l) = e at *
  obtain ⟨a, b⟩ := e
  simp only at hc
  unfold tkOf at h
  simp only at h
  rcases hc with rfl | ⟨ha, hb1, hb2⟩
  · simp at h
  · rcases ha with rfl | rfl | rfl | rfl | rfl
    · simp at h
    · simp at h; obtain ⟨rfl, rfl⟩ := h; exact ⟨Or.inl rfl, hb1, hb2⟩
    · simp at h; obtain ⟨rfl, rfl⟩ := h; exact ⟨Or.inr (Or.inl rfl), hb1, hb2⟩
    · simp at h; obtain ⟨rfl, rfl⟩ := h; exact ⟨Or.inr (Or.inr rfl), hb1, hb2⟩
    · simp at h
theorem nextTk_blank {c : UInt8} {l : List UInt8} {n : Nat} (h : nextTk (c :: l) = .blank n) : 1 ≤ n ∧ n ≤ (c :: l).length := by
  have hlen : 1 ≤ (c :: l).length := by simp
  have h1 := comLen_le (c :: l)
  simp only [nextTk] at h
  by_cases a1 : c = 32 ∨ c = 9
  · rw [if_pos a1] at h; cases h; exact ⟨Nat.le_refl _, hlen⟩
  · rw [if_neg a1] at h
    by_cases a2 : c = 10
    · rw [if_pos a2] at h; cases h
    · rw [if_neg a2] at h
      by_cases a3 : c = 35
      · rw [if_pos a3] at h
        have e : comLen (c :: l) = n := by injection h
        rw [← e]
        exact ⟨by rw [a3]; simp [comLen], h1⟩
      · rw [if_neg a3] at h
        exfalso
        revert h
        split
        · split <;> intro h <;> cases h
        · split
          · intro h; cases h
          · split <;> intro h <;> cases h
/-- from the tokens to the bare tokens -/
theorem TK.of_toks : ∀ (f : Nat) (acc : List TokD) (l : List UInt8) (ln col : Int) (r : List TokD), toksF f acc l ln col = .good r → ∃ r', r = acc ++ r' ∧ TK l (r'.map TokD.bare)
  | 0, _, _, _, _, _, h => by simp [toksF] at h
  | f + 1, acc, [], ln, col, r, h => by
    simp only [toksF, TRes.good.injEq] at h
    exact ⟨_, h.symm, by show TK [] [(5, bs ⟨[].toArray⟩)]; rw [bs_mk]; exact TK.done⟩
  | f + 1, acc, c :: l, ln, col, r, h => by
    rw [toksF] at h
    split at h
    · rename_i n hn
      obtain ⟨r', h1, h2⟩ := TK.of_toks f _ _ _ _ _ h
      exact ⟨r', h1, TK.blank hn (nextTk_blank hn).1 h2⟩
    · rename_i hn
      obtain ⟨r', h1, h2⟩ := TK.of_toks f _ _ _ _ _ h
      refine ⟨_ :: r', by rw [h1, List.append_assoc]; rfl, ?_⟩
      have e : TokD.bare ⟨4, ⟨#[]⟩, ln, col⟩ = (4, []) := by show (4, bs ⟨[].toArray⟩) = _; rw [bs_mk]
      rw [List.map_cons, e]
      exact TK.line hn h2
    · rename_i k n hn
      obtain ⟨r', h1, h2⟩ := TK.of_toks f _ _ _ _ _ h
      refine ⟨_ :: r', by rw [h1, List.append_assoc]; rfl, ?_⟩
      have e : TokD.bare ⟨k, ⟨((c :: l).take n).toArray⟩, ln, col⟩ = (k, (c :: l).take n) := by show (k, bs ⟨_⟩) = _; rw [bs_mk]
      rw [List.map_cons, e]
      exact TK.tok hn (nextTk_tok hn).2.1 h2
    · cases h
/-- .. and back -/
theorem TK.to_toks {l : List UInt8} {ts : List (Int × List UInt8)} (h : TK l ts) : ∀ (f : Nat) (acc : List TokD) (line col : Int), l.length < f → ∃ r', toksF f acc l line col = .good (acc ++ r') ∧ r'.map TokD.bare = ts := by
  induction h with
  | done =>
    intro f acc line col hf
    cases f with
    | zero => simp at hf
    | succ f => exact ⟨[⟨5, ⟨#[]⟩, line, col⟩], by rw [toksF], by show [(5, bs ⟨[].toArray⟩)] = _; rw [bs_mk]⟩
  | blank hn h1 hsub ih =>
    rename_i l ts n
    intro f acc line col hf
    cases l with
    | nil => simp [nextTk] at hn
    | cons c l =>
      cases f with
      | zero => simp at hf
      | succ f =>
        obtain ⟨r', e1, e2⟩ := ih f acc line (col + n) (by simp only [List.length_drop, List.length_cons] at hf ⊢; omega)
        exact ⟨r', by rw [toksF, hn]; exact e1, e2⟩
  | line hn hsub ih =>
    rename_i l ts
    intro f acc line col hf
    cases l with
    | nil => simp [nextTk] at hn
    | cons c l =>
      cases f with
      | zero => simp at hf
      | succ f =>
        obtain ⟨r', e1, e2⟩ := ih f (acc ++ [⟨4, ⟨#[]⟩, line, col⟩]) (line + 1) 1 (by simp only [List.length_drop, List.length_cons] at hf ⊢; omega)
        refine ⟨⟨4, ⟨#[]⟩, line, col⟩ :: r', by rw [toksF, hn]; exact e1.trans (by rw [List.append_assoc]; rfl), ?_⟩
        rw [List.map_cons, e2]
        show (4, bs ⟨[].toArray⟩) :: ts = _
        rw [bs_mk]
  | tok hn h1 hsub ih =>
    rename_i l ts k n
    intro f acc line col hf
    cases l with
    | nil => simp [nextTk] at hn
    | cons c l =>
      cases f with
      | zero => simp at hf
      | succ f =>
        obtain ⟨r', e1, e2⟩ := ih f (acc ++ [⟨k, ⟨((c :: l).take n).toArray⟩, line, col⟩]) line (col + n) (by simp only [List.length_drop, List.length_cons] at hf ⊢; omega)
        refine ⟨⟨k, ⟨((c :: l).take n).toArray⟩, line, col⟩ :: r', by rw [toksF, hn]; exact e1.trans (by rw [List.append_assoc]; rfl), ?_⟩
        rw [List.map_cons, e2]
        show (k, bs ⟨_⟩) :: ts = _
        rw [bs_mk]

theorem take_get {l : List UInt8} {n j : Nat} {x : List UInt8} (hj : j < n) (hn : n ≤ l.length) : (l.take n ++ 32 :: x)[j]? = l[j]? := by
  rw [List.getElem?_append_left (by rw [List.length_take]; omega), List.getElem?_take_of_lt hj]
theorem take_end {l : List UInt8} {n : Nat} {x : List UInt8} (hn : n ≤ l.length) : (l.take n ++ 32 :: x)[n]? = some 32 := by
  rw [List.getElem?_append_right (by rw [List.length_take]; omega), List.length_take, show n - min n l.length = 0 by omega]
  rfl
theorem digLen_at : ∀ (l : List UInt8) (j : Nat), j < digLen l → ∃ c, l[j]? = some c ∧ isDig c = true
  | [], j, h => by simp [digLen] at h
  | c :: l, j, h => by
    unfold digLen at h
    split at h
    · rename_i hc
      cases j with
      | zero => exact ⟨c, rfl, hc⟩
      | succ j => simpa using digLen_at l j (by omega)
    · omega
theorem digLen_stop : ∀ (l : List UInt8) (c : UInt8), l[digLen l]? = some c → isDig c = false
  | [], c, h => by simp at h
  | d :: l, c, h => by
    unfold digLen at h
    split at h
    · exact digLen_stop l c (by simpa using h)
    · rename_i hd
      simp at h
      rw [← h]; simpa using hd
theorem wordLen_at : ∀ (l : List UInt8) (j : Nat), j < wordLen l → ∃ c, l[j]? = some c ∧ wordB c = true
  | [], j, h => by simp [wordLen] at h
  | c :: l, j, h => by
    unfold wordLen at h
    split at h
    · rename_i hc
      cases j with
      | zero => exact ⟨c, rfl, hc⟩
      | succ j => simpa using wordLen_at l j (by omega)
    · omega
theorem wordLen_again (l x : List UInt8) : wordLen (l.take (wordLen l) ++ 32 :: x) = wordLen l := by
  have hn := wordLen_le l
  refine wordLen_spec _ _ (fun j hj => ?_) (fun c hc => ?_) (by simp; omega)
  · rw [take_get hj hn]; exact wordLen_at l j hj
  · rw [take_end hn] at hc; cases hc; rfl
theorem numLen_again (l x : List UInt8) : numLen (l.take (numLen l) ++ 32 :: x) = numLen l := by
  have hn := numLen_le l
  have hd := digLen_le l
  by_cases hp : pointAt l (digLen l) = true
  · have h1 : numLen l = digLen l + 1 + digLen (l.drop (digLen l + 1)) := by unfold numLen; rw [if_pos hp]
    have hp2 := hp
    unfold pointAt at hp
    rw [Bool.and_eq_true, beq_iff_eq] at hp
    obtain ⟨h46, hdig⟩ := hp
    obtain ⟨c1, hc1, hd1⟩ : ∃ c1, l[digLen l + 1]? = some c1 ∧ isDig c1 = true := by
      cases h : l[digLen l + 1]? with
      | none => rw [h] at hdig; cases hdig
      | some c1 => rw [h] at hdig; exact ⟨c1, rfl, hdig⟩
    have h2 : 1 ≤ digLen (l.drop (digLen l + 1)) := by
      have hlt := (List.getElem?_eq_some_iff.1 hc1).1
      rw [List.drop_eq_getElem_cons hlt]
      have e : l[digLen l + 1] = c1 := (List.getElem?_eq_some_iff.1 hc1).2
      rw [e]; simp [digLen, hd1]
    have hdl := digLen_le (l.drop (digLen l + 1))
    rw [List.length_drop] at hdl
    have e1 : digLen (l.take (numLen l) ++ 32 :: x) = digLen l := by
      refine digLen_spec _ _ (fun j hj => ?_) (fun c hc => ?_) (by simp; omega)
      · rw [take_get (by omega) hn]; exact digLen_at l j hj
      · rw [take_get (by omega) hn, h46] at hc; cases hc; rfl
    have e2 : pointAt (l.take (numLen l) ++ 32 :: x) (digLen l) = true := by
      unfold pointAt
      rw [take_get (by omega) hn, take_get (by omega) hn, h46, hc1]
      simpa using hd1
    have e3 : digLen ((l.take (numLen l) ++ 32 :: x).drop (digLen l + 1)) = digLen (l.drop (digLen l + 1)) := by
      refine digLen_spec _ _ (fun j hj => ?_) (fun c hc => ?_) (by simp; omega)
      · rw [List.getElem?_drop, take_get (by omega) hn]
        have := digLen_at (l.drop (digLen l + 1)) j hj
        rwa [List.getElem?_drop] at this
      · rw [List.getElem?_drop, show digLen l + 1 + digLen (l.drop (digLen l + 1)) = numLen l by omega, take_end hn] at hc
        cases hc; rfl
    rw [numLen_yes (l := l.take (numLen l) ++ 32 :: x) e1 e2 rfl, e3, h1]
  · have hp : pointAt l (digLen l) = false := by simpa using hp
    have h1 : numLen l = digLen l := numLen_no rfl hp
    have e1 : digLen (l.take (numLen l) ++ 32 :: x) = numLen l := by
      refine digLen_spec _ _ (fun j hj => ?_) (fun c hc => ?_) (by simp; omega)
      · rw [take_get hj hn]; exact digLen_at l j (by omega)
      · rw [take_end hn] at hc; cases hc; rfl
    exact numLen_no e1 (by unfold pointAt; rw [take_end hn]; rfl)
theorem symLen_again (c : UInt8) (l x : List UInt8) (h : symLen (c :: l) ≠ 0) : symLen ((c :: l).take (symLen (c :: l)) ++ 32 :: x) = symLen (c :: l) := by
  by_cases h2 : twoB (c :: l) = true
  · have e : symLen (c :: l) = 2 := symLen_two h2
    cases l with
    | nil => rw [twoB_one] at h2; cases h2
    | cons d l =>
      rw [e]
      refine symLen_two ?_
      rw [twoB_cons] at h2
      show twoB (c :: d :: 32 :: x) = true
      rw [twoB_cons]; exact h2
  · have h2 : twoB (c :: l) = false := by simpa using h2
    have h1 : alone.contains c = true := by
      cases ha : alone.contains c with
      | true => rfl
      | false => exact absurd (symLen_no h2 ha) h
    rw [symLen_yes h2 h1]
    show symLen (c :: 32 :: x) = 1
    exact symLen_yes (by rw [twoB_cons]; simp) h1
/-- a token's text, with a blank behind it, begins with that token -/
theorem tok_again {c : UInt8} {l : List UInt8} {k : Int} {n : Nat} (h : nextTk (c :: l) = .tok k n) (x : List UInt8) : nextTk ((c :: l).take n ++ 32 :: x) = .tok k n := by
  obtain ⟨_, hn1, _⟩ := nextTk_tok h
  have hcons : ∃ l', (c :: l).take n ++ 32 :: x = c :: l' := by
    obtain ⟨m, rfl⟩ : ∃ m, n = m + 1 := ⟨n - 1, by omega⟩
    exact ⟨_, rfl⟩
  obtain ⟨l', hl'⟩ := hcons
  have hw := wordLen_again (c :: l) x
  have hnum := numLen_again (c :: l) x
  have hsym := symLen_again c l x
  simp only [nextTk] at h
  rw [hl']
  simp only [nextTk]
  by_cases a1 : c = 32 ∨ c = 9
  · rw [if_pos a1] at h; cases h
  · rw [if_neg a1] at h ⊢
    by_cases a2 : c = 10
    · rw [if_pos a2] at h; cases h
    · rw [if_neg a2] at h ⊢
      by_cases a3 : c = 35
      · rw [if_pos a3] at h; cases h
      · rw [if_neg a3] at h ⊢
        by_cases a4 : letterB (c.toNat : Int) = true
        · rw [if_pos a4] at h ⊢
          by_cases a5 : wordLen (c :: l) ≤ 20
          · rw [if_pos a5] at h
            injection h with e1 e2
            rw [e2, hl'] at hw
            rw [hw, if_pos (by omega), e1]
          · rw [if_neg a5] at h; cases h
        · rw [if_neg a4] at h ⊢
          by_cases a6 : isDig c = true
          · rw [if_pos a6] at h ⊢
            injection h with e1 e2
            rw [e2, hl'] at hnum
            rw [hnum, e1]
          · rw [if_neg a6] at h ⊢
            by_cases a7 : symLen (c :: l) = 0
            · rw [if_pos a7] at h; cases h
            · rw [if_neg a7] at h
              injection h with e1 e2
              have hs := hsym a7
              rw [e2, hl'] at hs
              rw [hs, if_neg (by omega), e1]
def tokText (t : Int × List UInt8) : List UInt8 := if t.1 = 4 then [10] else t.2
/-- the texts, with blanks between them -/
def joined : List (Int × List UInt8) → List UInt8
  | [] => []
  | [t] => tokText t
  | t :: u :: ts => tokText t ++ 32 :: joined (u :: ts)
theorem joined_cons {t : Int × List UInt8} {ts : List (Int × List UInt8)} (h : ts ≠ []) : joined (t :: ts) = tokText t ++ 32 :: joined ts := by
  cases ts with
  | nil => exact absurd rfl h
  | cons u ts => rfl
theorem TK.ne {l : List UInt8} {ts : List (Int × List UInt8)} (h : TK l ts) : ts ≠ [] := by
  induction h with
  | done => simp
  | blank _ _ _ ih => exact ih
  | line => simp
  | tok => simp
/-- THE JOINED TEXTS HAVE THE SAME TOKENS -/
theorem TK.join {l : List UInt8} {ts : List (Int × List UInt8)} (h : TK l ts) : TK (joined ts) ts ∧ (joined ts).length ≤ 2 * l.length ∧ ts.length ≤ l.length + 1 := by
  induction h with
  | done => exact ⟨TK.done, by simp [joined, tokText], by simp⟩
  | blank hn h1 hsub ih =>
    rename_i l ts n
    obtain ⟨i1, i2, i3⟩ := ih
    rw [List.length_drop] at i2 i3
    exact ⟨i1, by omega, by omega⟩
  | line hn hsub ih =>
    rename_i l ts
    obtain ⟨i1, i2, i3⟩ := ih
    have hl : 0 < l.length := by
      cases l with
      | nil => simp [nextTk] at hn
      | cons => simp
    rw [List.length_drop] at i2 i3
    have e : joined ((4, []) :: ts) = 10 :: 32 :: joined ts := by rw [joined_cons hsub.ne]; rfl
    rw [e]
    refine ⟨TK.line rfl (TK.blank (n := 1) rfl (Nat.le_refl _) i1), ?_, ?_⟩
    · simp only [List.length_cons]; omega
    · simp only [List.length_cons]; omega
  | tok hn h1 hsub ih =>
    rename_i l ts k n
    obtain ⟨i1, i2, i3⟩ := ih
    cases l with
    | nil => simp [nextTk] at hn
    | cons c l =>
      obtain ⟨hk, _, hle⟩ := nextTk_tok hn
      have hk4 : ¬ k = 4 := by omega
      have e : joined ((k, (c :: l).take n) :: ts) = (c :: l).take n ++ 32 :: joined ts := by
        rw [joined_cons hsub.ne]; unfold tokText; rw [if_neg hk4]
      have ht : ((c :: l).take n).length = n := by rw [List.length_take]; omega
      rw [List.length_drop] at i2 i3
      rw [e]
      refine ⟨?_, ?_, ?_⟩
      · have h2 := TK.tok (ts := ts) (tok_again hn (joined ts)) h1 (by
          rw [List.drop_append_of_le_length (by omega), List.drop_of_length_le (by omega), List.nil_append]
          exact TK.blank (n := 1) rfl (Nat.le_refl _) i1)
        rw [List.take_append_of_le_length (by omega), List.take_of_length_le (l := (c :: l).take n) (by omega)] at h2
        exact h2
      · rw [List.length_append, ht]; simp only [List.length_cons] at *; omega
      · simp only [List.length_cons] at *; omega
end Go.Proofs.YtplblogdgbnbdaaDoor
