/- A source that ends early, and one with a further line of a house: where the reader stops, in plain Lean. What Parse gives of a text without its last newline, of a text with a line more, and of its first line alone: in plain Lean. loftblocklaw31.SourceCut: the walk of the law. -/
import Derived.Test.YtnjbfhfjdhfdlaaGreatDoorSrcToks
import Derived.Test.YtnjbfhfjdhfdlaaGreatDoorLawTwice
import Derived.Test.YtnjbfhfjdhfdlaaGreatDoorLawBack
namespace Go.Proofs.YtnjbfhfjdhfdlaaGreatDoor
open Go Go.Lib

/-- tokens ahead of the end: none is the text's end; if wanted, the last is no line's end -/
def PB (b : Bool) (A : List TokD) : Prop := (∀ t ∈ A, t.kind ≠ 5) ∧ (b = true → ∀ t, A.getLast? = some t → t.kind ≠ 4)
theorem PB.tail {b : Bool} {t : TokD} {A : List TokD} (h : PB b (t :: A)) : PB b A := ⟨fun u hu => h.1 u (by simp [hu]), fun hb u hu => h.2 hb u (by rw [List.getLast?_cons, hu]; rfl)⟩
/-- one reader reads on to the text's end e, the other to the tokens o: as long as they read what is the same -/
def On (e : TokD) (o : List TokD) (P : List TokD → Prop) {α : Type} (z y : Rd α) : Prop :=
  z = .error (e.line, e.col) ∨ (∃ p, z = .error p ∧ y = .error p) ∨ ∃ a A, P A ∧ z = .ok (a, A ++ [e]) ∧ y = .ok (a, A ++ o)
section
variable {e : TokD} {o : List TokD} {P Q : List TokD → Prop} {α β : Type}
theorem bind_ok {a : α} {r : List TokD} {f : α → List TokD → Rd β} : bindR (.ok (a, r)) f = f a r := rfl
theorem On.bind {z y : Rd α} {f g : α → List TokD → Rd β} (h : On e o P z y) (hf : ∀ a A, P A → On e o Q (f a (A ++ [e])) (g a (A ++ o))) : On e o Q (bindR z f) (bindR y g) := by
  rcases h with rfl | ⟨p, rfl, rfl⟩ | ⟨a, A, hA, rfl, rfl⟩
  · exact Or.inl rfl
  · exact Or.inr (Or.inl ⟨p, rfl, rfl⟩)
  · exact hf a A hA
theorem On.ok {a : α} {A : List TokD} (h : P A) : On e o P (.ok (a, A ++ [e])) (.ok (a, A ++ o)) := Or.inr (Or.inr ⟨a, A, h, rfl, rfl⟩)
theorem On.err (p : Int × Int) : On e o P (.error p : Rd α) (.error p) := Or.inr (Or.inl ⟨p, rfl, rfl⟩)
end
section
variable {b : Bool} {e : TokD} (he : e.kind = 5) {o : List TokD}
 include he
theorem take_on {k : Int} (hk : k ≠ 5) (ok : List UInt8 → Bool) {A : List TokD} (hA : PB b A) : On e o (PB b) (takeR k ok (A ++ [e])) (takeR k ok (A ++ o)) := by
  cases A with
  | nil =>
    refine Or.inl ?_
    rw [List.nil_append, takeR, if_neg (by rw [he]; exact fun h => hk h.1.symm)]
  | cons t A =>
    simp only [List.cons_append, takeR]
    split
    · exact On.ok hA.tail
    · exact On.err _
theorem num1_on (neg : Bool) {A : List TokD} (hA : PB b A) : On e o (PB b) (numR1 neg (A ++ [e])) (numR1 neg (A ++ o)) := by
  cases A with
  | nil =>
    refine Or.inl ?_
    rw [List.nil_append, numR1, if_neg (by rw [he]; decide)]
  | cons t A =>
    simp only [List.cons_append, numR1]
    split
    · split
      · exact On.ok hA.tail
      · exact On.err _
    · exact On.err _
theorem num_end : numR [e] = .error (e.line, e.col) := by
  have h : minusT e = false := by unfold minusT; rw [he]; rfl
  rw [numR, h, if_neg (by simp), numR1, if_neg (by rw [he]; decide)]
theorem num_on {A : List TokD} (hA : PB b A) : On e o (PB b) (numR (A ++ [e])) (numR (A ++ o)) := by
  cases A with
  | nil => exact Or.inl (num_end he)
  | cons t A =>
    simp only [List.cons_append, numR]
    split
    · exact num1_on he true hA.tail
    · exact num1_on he false hA
theorem nums_on : ∀ (k : Nat) {A : List TokD}, PB b A → On e o (PB b) (numsR k (A ++ [e])) (numsR k (A ++ o))
  | 0, _, hA => On.ok hA
  | k + 1, _, hA => by
    rw [nums_bind, nums_bind]
    exact (num_on he hA).bind fun n A hA => (nums_on k hA).bind fun l A hA => On.ok hA
theorem more_on : ∀ (f f' : Nat) {A : List TokD}, A.length < f → A.length ≤ f' → PB b A → On e o (PB b) (moreR f (A ++ [e])) (moreR f' (A ++ o))
  | 0, _, _, hf, _, _ => absurd hf (Nat.not_lt_zero _)
  | f + 1, f', A, hf, hf', hA => by
    cases A with
    | nil =>
      refine Or.inl ?_
      rw [List.nil_append, more_bind, num_end he]; rfl
    | cons t0 A0 =>
      obtain ⟨f', rfl⟩ : ∃ k, f' = k + 1 := ⟨f' - 1, by simp only [List.length_cons] at hf'; omega⟩
      rw [more_bind, more_bind]
      have h1 := num_on (o := o) he hA
      have l1 := num_less ((t0 :: A0) ++ [e])
      rcases h1 with h1 | ⟨p, h1, h2⟩ | ⟨a, A, hA', h1, h2⟩
      · rw [h1]; exact Or.inl rfl
      · rw [h1, h2]; exact On.err p
      · have l2 := l1 _ _ h1
        rw [h1, h2, bind_ok, bind_ok]
        simp only [List.length_append, List.length_cons] at l2 hf hf'
        cases A with
        | nil =>
          refine Or.inl ?_
          rw [List.nil_append, if_neg (by rw [kindT, he]; decide)]
          obtain ⟨k, rfl⟩ : ∃ k, f = k + 1 := ⟨f - 1, by omega⟩
          rw [more_bind, num_end he]; rfl
        | cons t A =>
          simp only [List.length_cons] at l2
          by_cases ht : t.kind = 4
          · rw [if_pos (show kindT (t :: A ++ [e]) = 4 from ht), if_pos (show kindT (t :: A ++ o) = 4 from ht)]; exact On.ok (A := t :: A) hA'
          · rw [if_neg (show ¬ kindT (t :: A ++ [e]) = 4 from ht), if_neg (show ¬ kindT (t :: A ++ o) = 4 from ht)]
            have h3 := more_on f f' (A := t :: A) (by simp only [List.length_cons]; omega) (by simp only [List.length_cons]; omega) hA'
            exact h3.bind fun l A hA => On.ok hA
theorem name_on {A : List TokD} (hA : PB b A) : On e o (PB b) (nameR (A ++ [e])) (nameR (A ++ o)) := take_on he (by decide) _ hA
theorem set_on {A : List TokD} (hA : PB b A) : On e o (PB b) (setR (A ++ [e])) (setR (A ++ o)) :=
  (name_on he hA).bind fun _ _ hA => (nums_on he 9 hA).bind fun _ A hA => (more_on he _ _ (by simp) (by simp) hA).bind fun _ _ hA => On.ok hA
theorem item_on {A : List TokD} (hA : PB b A) : On e o (PB b) (itemR (A ++ [e])) (itemR (A ++ o)) := (name_on he hA).bind fun _ _ hA => (nums_on he 6 hA).bind fun _ _ hA => On.ok hA
theorem brick_on {A : List TokD} (hA : PB b A) : On e o (PB b) (brickR (A ++ [e])) (brickR (A ++ o)) := (name_on he hA).bind fun _ _ hA => (nums_on he 2 hA).bind fun _ _ hA => On.ok hA
theorem roof_on {A : List TokD} (hA : PB b A) : On e o (PB b) (roofR (A ++ [e])) (roofR (A ++ o)) := (name_on he hA).bind fun _ _ hA => (nums_on he 3 hA).bind fun _ _ hA => On.ok hA
theorem move_on {A : List TokD} (hA : PB b A) : On e o (PB b) (moveR (A ++ [e])) (moveR (A ++ o)) := (name_on he hA).bind fun _ _ hA => (nums_on he 4 hA).bind fun _ _ hA => On.ok hA
theorem apart_on {A : List TokD} (hA : PB b A) : On e o (PB b) (apartR (A ++ [e])) (apartR (A ++ o)) := (name_on he hA).bind fun _ _ hA => (name_on he hA).bind fun _ _ hA => On.ok hA
theorem link_on {A : List TokD} (hA : PB b A) : On e o (PB b) (linkR (A ++ [e])) (linkR (A ++ o)) :=
  (take_on he (by decide) _ hA).bind fun w _ hA => by
    by_cases hw : bs w = wManual
    · rw [if_pos hw, if_pos hw]; exact On.ok hA
    · rw [if_neg hw, if_neg hw]; exact (name_on he hA).bind fun _ _ hA => On.ok hA
theorem cue_on {A : List TokD} (hA : PB b A) : On e o (PB b) (cueR (A ++ [e])) (cueR (A ++ o)) := (name_on he hA).bind fun _ _ hA => (link_on he hA).bind fun _ _ hA => (nums_on he 3 hA).bind fun _ _ hA => On.ok hA
theorem body_on (h : HouseP) (c : SheetP) (w : List UInt8) (p : Int × Int) {A : List TokD} (hA : PB b A) : On e o (PB b) (bodyR h c w p (A ++ [e])) (bodyR h c w p (A ++ o)) := by
  unfold bodyR
  split
  · exact (roof_on he hA).bind fun _ _ hA => On.ok hA
  split
  · exact (set_on he hA).bind fun _ _ hA => On.ok hA
  split
  · split
    · exact On.err _
    · exact (item_on he hA).bind fun _ _ hA => On.ok hA
  split
  · split
    · exact On.err _
    · exact (brick_on he hA).bind fun _ _ hA => On.ok hA
  split
  · exact (cue_on he hA).bind fun _ _ hA => On.ok hA
  split
  · split
    · exact On.err _
    · exact (move_on he hA).bind fun _ _ hA => On.ok hA
  · exact (apart_on he hA).bind fun _ _ hA => On.ok hA
theorem end_on {A : List TokD} (hA : PB b A) : On e o (fun A => PB b A ∧ (b = true → A ≠ [])) (endR (A ++ [e])) (endR (A ++ o)) := by
  cases A with
  | nil =>
    refine Or.inl ?_
    rw [List.nil_append, endR, takeR, if_neg (by rw [he]; exact fun h => absurd h.1 (by decide))]
  | cons t A =>
    simp only [List.cons_append, endR, takeR]
    split
    · rename_i ht
      refine On.ok ⟨hA.tail, fun hb hn => ?_⟩
      subst hn
      exact hA.2 hb t rfl ht.1
    · exact On.err _
theorem stmt_on (h : HouseP) (c : SheetP) {A : List TokD} (hA : PB b A) : On e o (fun A => PB b A ∧ (b = true → A ≠ [])) (stmtR h c (A ++ [e])) (stmtR h c (A ++ o)) := by
  cases A with
  | nil =>
    refine Or.inl ?_
    rw [List.nil_append, stmtR, takeR, if_neg (by rw [he]; exact fun h => absurd h.1 (by decide))]
    rfl
  | cons t A =>
    unfold stmtR
    refine (take_on he (by decide) _ hA).bind fun w B hB => ?_
    rw [show posT (t :: A ++ [e]) = posT (t :: A ++ o) from rfl]
    exact (body_on he h c _ _ hB).bind fun x B hB => (end_on he hB).bind fun _ B hB => On.ok hB
 omit he in
theorem blank_nil : ∀ {A : List TokD}, blankR A = [] → ∀ t ∈ A, t.kind = 4
  | [], _, t, ht => by cases ht
  | u :: A, h, t, ht => by
    by_cases hk : u.kind = 4
    · rw [blankR_line hk] at h
      rcases List.mem_cons.1 ht with rfl | ht
      · exact hk
      · exact blank_nil h t ht
    · rw [blankR_other hk] at h
      cases h
 omit he in
theorem blank_app : ∀ {A : List TokD} (s : List TokD), blankR A ≠ [] → blankR (A ++ s) = blankR A ++ s
  | [], s, h => absurd rfl h
  | u :: A, s, h => by
    by_cases hk : u.kind = 4
    · rw [List.cons_append, blankR_line hk, blankR_line hk]
      rw [blankR_line hk] at h
      exact blank_app s h
    · rw [List.cons_append, blankR_other hk, blankR_other hk]; rfl
 omit he in
theorem blank_none : ∀ {A : List TokD} (s : List TokD), blankR A = [] → blankR (A ++ s) = blankR s
  | [], s, _ => rfl
  | u :: A, s, h => by
    by_cases hk : u.kind = 4
    · rw [blankR_line hk] at h
      rw [List.cons_append, blankR_line hk]
      exact blank_none s h
    · rw [blankR_other hk] at h
      cases h
 omit he in
theorem blank_pb : ∀ {A : List TokD}, PB b A → PB b (blankR A)
  | [], h => h
  | u :: A, h => by
    by_cases hk : u.kind = 4
    · rw [blankR_line hk]; exact blank_pb h.tail
    · rw [blankR_other hk]; exact h
 omit he in
theorem blank_some {A : List TokD} (h : PB true A) (hne : A ≠ []) : blankR A ≠ [] := fun hb => by
  have h1 := blank_nil hb (A.getLast hne) (List.getLast_mem hne)
  exact h.2 rfl _ (List.getLast?_eq_some_iff.2 ⟨A.dropLast, (List.dropLast_concat_getLast hne).symm⟩) h1
 omit he in
theorem kind_app {A : List TokD} (s : List TokD) (hne : A ≠ []) : kindT (A ++ s) = kindT A := by
  cases A with
  | nil => exact absurd rfl hne
  | cons t A => rfl
 omit he in
theorem kind_pb {A : List TokD} (h : PB b A) (hne : A ≠ []) : kindT A ≠ 5 := by
  cases A with
  | nil => exact absurd rfl hne
  | cons t A => exact h.1 t (by simp)
theorem rest_cut : ∀ (f f' : Nat) (h : HouseP) (c : SheetP) {A : List TokD}, A.length < f → A.length < f' → PB true A → A ≠ [] →
    restR f h c (A ++ [e]) = .error (e.line, e.col) ∨ ∃ p, restR f h c (A ++ [e]) = .error p ∧ restR f' h c (A ++ o) = .error p
  | 0, _, _, _, _, hf, _, _, _ => absurd hf (Nat.not_lt_zero _)
  | _ + 1, 0, _, _, _, _, hf, _, _ => absurd hf (Nat.not_lt_zero _)
  | f + 1, f' + 1, h, c, A, hf, hf', hA, hne => by
    have hb := blank_some hA hne
    have hp := blank_pb hA
    have hl := blankR_len A
    rw [restR, restR, blank_app _ hb, blank_app _ hb, kind_app _ hb, kind_app _ hb, if_neg (kind_pb hp hb), if_neg (kind_pb hp hb)]
    have l1 := stmt_less h c (blankR A ++ [e])
    rcases stmt_on (o := o) he h c hp with h1 | ⟨p, h1, h2⟩ | ⟨a, A', hA', h1, h2⟩
    · rw [h1]; exact Or.inl rfl
    · rw [h1, h2]; exact Or.inr ⟨p, rfl, rfl⟩
    · have l2 := l1 _ _ h1
      simp only [List.length_append, List.length_singleton] at l2
      rw [h1, h2]
      exact rest_cut f f' a.1 a.2 (by omega) (by omega) hA'.1 (hA'.2 rfl)
theorem rest_more : ∀ (f f' : Nat) (h : HouseP) (c : SheetP) {A : List TokD} {t : TokD} {s : List TokD} {v : (HouseP × SheetP) × List TokD}, A.length < f → A.length < f' → PB false A → t.kind = 1 → stmtWord (bs t.text) = false →
    restR f h c (A ++ [e]) = .ok v → restR f' h c (A ++ t :: s) = .error (t.line, t.col)
  | 0, _, _, _, _, _, _, _, hf, _, _, _, _, _ => absurd hf (Nat.not_lt_zero _)
  | _ + 1, 0, _, _, _, _, _, _, _, hf, _, _, _, _ => absurd hf (Nat.not_lt_zero _)
  | f + 1, f' + 1, h, c, A, t, s, v, hf, hf', hA, ht, hw, hv => by
    rw [restR] at hv ⊢
    by_cases hb : blankR A = []
    · rw [blank_none _ hb, blankR_other (by rw [ht]; decide), if_neg (by rw [kindT, ht]; decide), stmtR, takeR, if_neg (by rw [hw]; simp)]
      rfl
    · have hp := blank_pb hA
      have hl := blankR_len A
      rw [blank_app _ hb, kind_app _ hb, if_neg (kind_pb hp hb)] at hv ⊢
      have l1 := stmt_less h c (blankR A ++ [e])
      rcases stmt_on (o := t :: s) he h c hp with h1 | ⟨p, h1, h2⟩ | ⟨a, A', hA', h1, h2⟩
      · rw [h1] at hv; cases hv
      · rw [h1] at hv; cases hv
      · have l2 := l1 _ _ h1
        simp only [List.length_append, List.length_singleton] at l2
        rw [h1] at hv
        rw [h2]
        exact rest_more f f' a.1 a.2 (by omega) (by omega) hA'.1 ht hw hv
theorem head_on {A : List TokD} (hA : PB b A) (hne : blankR A ≠ []) : On e o (fun A => PB b A ∧ (b = true → A ≠ [])) (headR (A ++ [e])) (headR (A ++ o)) := by
  unfold headR
  rw [blank_app _ hne, blank_app _ hne]
  exact (take_on he (by decide) _ (blank_pb hA)).bind fun _ _ hA => (name_on he hA).bind fun _ _ hA => (num_on he hA).bind fun _ _ hA => (end_on he hA).bind fun _ _ hA => On.ok hA
/-- a source that can be read, but for what stands behind its last but one token, stops there -/
theorem read_cut {A : List TokD} {v : (HouseP × SheetP) × List TokD} (hA : PB true A) (hne : A ≠ []) (hv : readR (A ++ o) = .ok v) : readR (A ++ [e]) = .error (e.line, e.col) := by
  unfold readR at hv ⊢
  have l1 := head_less (A ++ [e])
  rcases head_on (o := o) he hA (blank_some hA hne) with h1 | ⟨p, h1, h2⟩ | ⟨a, A', hA', h1, h2⟩
  · rw [h1]; rfl
  · rw [h2] at hv; cases hv
  · have l2 := l1 _ _ h1
    simp only [List.length_append, List.length_singleton] at l2
    rw [h1]
    rw [h2] at hv
    simp only [bindR] at hv ⊢
    rcases rest_cut (o := o) he (A ++ [e]).length (A ++ o).length ⟨a.1, a.2, [], []⟩ ⟨[], []⟩ (A := A') (by rw [List.length_append]; simp; omega) (by rw [List.length_append]; omega) hA'.1 (hA'.2 rfl) with h3 | ⟨p, h3, h4⟩
    · exact h3
    · rw [h4] at hv; cases hv
/-- a source that can be read, with a line more that begins with no statement's word, stops at that word -/
theorem read_more {A : List TokD} {t : TokD} {s : List TokD} {v : (HouseP × SheetP) × List TokD} (hA : PB false A) (ht : t.kind = 1) (hw : stmtWord (bs t.text) = false) (hv : readR (A ++ [e]) = .ok v) : readR (A ++ t :: s) = .error (t.line, t.col) := by
  unfold readR at hv ⊢
  have l1 := head_less (A ++ [e])
  by_cases hb : blankR A = []
  · rw [headR, blank_none _ hb, blankR_other (by rw [he]; decide), takeR, if_neg (by rw [he]; exact fun h => absurd h.1 (by decide))] at hv
    cases hv
  · rcases head_on (o := t :: s) he hA hb with h1 | ⟨p, h1, h2⟩ | ⟨a, A', hA', h1, h2⟩
    · rw [h1] at hv; cases hv
    · rw [h1] at hv; cases hv
    · have l2 := l1 _ _ h1
      simp only [List.length_append, List.length_singleton] at l2
      rw [h1] at hv
      rw [h2]
      simp only [bindR] at hv ⊢
      exact rest_more he _ _ _ _ (by rw [List.length_append]; simp; omega) (by rw [List.length_append]; simp; omega) hA'.1 ht hw hv
end

/-! ### the tokens of a text that ends early, and of one with a line more -/
def linesToks : Int → List (List Wd) → List TokD
  | _, [] => []
  | line, l :: ls => lineToks line 1 l ++ linesToks (line + 1) ls
theorem all_app : ∀ (L M : List (List Wd)) (line : Int), allToks line (L ++ M) = linesToks line L ++ allToks (line + L.length) M
  | [], M, line => by simp [linesToks]
  | l :: L, M, line => by
    rw [List.cons_append, allToks, linesToks, all_app L M (line + 1), List.append_assoc, List.length_cons, show line + 1 + (L.length : Int) = line + ((L.length + 1 : Nat) : Int) by omega]
theorem lines_app : ∀ (L M : List (List Wd)) (line : Int), linesToks line (L ++ M) = linesToks line L ++ linesToks (line + L.length) M
  | [], M, line => by simp [linesToks]
  | l :: L, M, line => by
    rw [List.cons_append, linesToks, linesToks, lines_app L M (line + 1), List.append_assoc, List.length_cons, show line + 1 + (L.length : Int) = line + ((L.length + 1 : Nat) : Int) by omega]
theorem all_lines (L : List (List Wd)) (line : Int) : allToks line L = linesToks line L ++ [⟨5, ⟨#[]⟩, line + L.length, 1⟩] := by
  have h := all_app L [] line
  rw [List.append_nil] at h
  exact h
/-- the tokens of a line's words -/
def wsToks (line col : Int) : List Wd → List TokD
  | [] => []
  | [w] => wordToks line col w
  | w :: v :: l => wordToks line col w ++ wsToks line (col + (wb w).length + 1) (v :: l)
def wsEnd (col : Int) : List Wd → Int
  | [] => col
  | [w] => col + (wb w).length
  | w :: v :: l => wsEnd (col + (wb w).length + 1) (v :: l)
theorem line_ws : ∀ (ws : List Wd) (line col : Int), lineToks line col ws = wsToks line col ws ++ [⟨4, ⟨#[]⟩, line, wsEnd col ws⟩]
  | [], _, _ => rfl
  | [w], _, _ => rfl
  | w :: v :: l, line, col => by
    rw [lineToks, wsToks, wsEnd, line_ws (v :: l), List.append_assoc]
theorem word_kinds (line col : Int) (w : Wd) : ∀ t ∈ wordToks line col w, t.kind ≠ 4 ∧ t.kind ≠ 5 := by
  intro t ht
  cases w with
  | wd l =>
    simp only [wordToks, List.mem_singleton] at ht
    subst ht
    exact ⟨(by decide : (1 : Int) ≠ 4), (by decide : (1 : Int) ≠ 5)⟩
  | num n =>
    simp only [wordToks] at ht
    split at ht
    · simp only [List.mem_cons, List.not_mem_nil, or_false] at ht
      rcases ht with rfl | rfl
      · exact ⟨(by decide : (3 : Int) ≠ 4), (by decide : (3 : Int) ≠ 5)⟩
      · exact ⟨(by decide : (2 : Int) ≠ 4), (by decide : (2 : Int) ≠ 5)⟩
    · simp only [List.mem_singleton] at ht
      subst ht
      exact ⟨(by decide : (2 : Int) ≠ 4), (by decide : (2 : Int) ≠ 5)⟩
theorem ws_kinds : ∀ (ws : List Wd) (line col : Int), ∀ t ∈ wsToks line col ws, t.kind ≠ 4 ∧ t.kind ≠ 5
  | [], _, _, t, ht => by cases ht
  | [w], line, col, t, ht => word_kinds line col w t ht
  | w :: v :: l, line, col, t, ht => by
    rw [wsToks] at ht
    rcases List.mem_append.1 ht with ht | ht
    · exact word_kinds line col w t ht
    · exact ws_kinds (v :: l) _ _ t ht
theorem lines_kinds : ∀ (L : List (List Wd)) (line : Int), ∀ t ∈ linesToks line L, t.kind ≠ 5
  | [], _, t, ht => by cases ht
  | l :: L, line, t, ht => by
    rw [linesToks, line_ws] at ht
    simp only [List.mem_append, List.mem_singleton] at ht
    rcases ht with (ht | rfl) | ht
    · exact (ws_kinds l _ _ t ht).2
    · exact (by decide : (4 : Int) ≠ 5)
    · exact lines_kinds L _ t ht
theorem last_app {A B : List TokD} (hB : B ≠ []) {t : TokD} (h : (A ++ B).getLast? = some t) : t ∈ B := by
  have e : B.dropLast ++ [B.getLast hB] = B := List.dropLast_concat_getLast hB
  rw [← e, ← List.append_assoc, List.getLast?_concat] at h
  injection h with h
  rw [← h]; exact List.getLast_mem hB
theorem word_some (line col : Int) (w : Wd) : wordToks line col w ≠ [] := by
  cases w with
  | wd l => simp [wordToks]
  | num n => simp only [wordToks]; split <;> simp
theorem ws_some {ws : List Wd} (h : ws ≠ []) (line col : Int) : wsToks line col ws ≠ [] := by
  match ws, h with
  | [w], _ => exact word_some line col w
  | w :: v :: l, _ =>
    rw [wsToks]
    exact fun h => word_some line col w (List.append_eq_nil_iff.1 h).1
theorem dig_whole : ∀ (l : List UInt8), l.all isDig = true → digLen l = l.length
  | [], _ => rfl
  | d :: l, h => by
    simp only [List.all_cons, Bool.and_eq_true] at h
    rw [digLen, if_pos h.1, dig_whole l h.2]; simp
/-- a word at the text's end -/
theorem word_last {R : TRes} {acc : List TokD} {w : Wd} {line col : Int} (hw : w.fit) (h : ToksTo R acc (wb w) line col) : R = .good (acc ++ wordToks line col w ++ [⟨5, ⟨#[]⟩, line, col + (wb w).length⟩]) := by
  have key : ∀ (acc : List TokD) (l : List UInt8) (k : Int) (col : Int), 0 < l.length → nextTk l = .tok k l.length → ToksTo R acc l line col →
      R = .good (acc ++ [⟨k, ⟨l.toArray⟩, line, col⟩] ++ [⟨5, ⟨#[]⟩, line, col + l.length⟩]) := fun acc l k col h0 hk h => by
    have h2 := h.tok h0 hk (by omega)
    rw [List.take_length, List.drop_length] at h2
    exact h2.done rfl
  have hwl : ∀ l : List UInt8, isNameL l = true → nextTk l = .tok 1 l.length := fun l hl => by
    simp only [isNameL, Bool.and_eq_true, decide_eq_true_eq] at hl
    obtain ⟨⟨⟨h1, h2⟩, h3⟩, h4⟩ := hl
    cases l with
    | nil => simp at h1
    | cons a l =>
      simp only [List.headD_cons] at h3
      obtain ⟨n1, n2, n3⟩ := letter_not h3
      rw [nextTk, if_neg n1, if_neg n2, if_neg n3, if_pos h3, h4, if_pos h2]
  cases w with
  | wd l =>
    have hl : isNameL l = true := hw
    have h0 : 0 < l.length := by
      simp only [isNameL, Bool.and_eq_true] at hl
      cases l with
      | nil => simp at hl
      | cons _ _ => simp
    exact key acc l 1 col h0 (hwl l hl) h
  | num n =>
    have hd : ∀ m : Nat, nextTk (decDigits m) = .tok 2 (decDigits m).length := fun m => by
      have h0 := decDigits_len_pos m
      have h1 := decDigits_all m
      have hn : numLen (decDigits m) = (decDigits m).length := by
        unfold numLen pointAt
        rw [dig_whole _ h1, List.getElem?_eq_none (Nat.le_refl _)]
        simp
      cases hx : decDigits m with
      | nil => rw [hx] at h0; simp at h0
      | cons d l =>
        rw [hx] at h1 hn
        simp only [List.all_cons, Bool.and_eq_true] at h1
        obtain ⟨n1, n2, n3, n4⟩ := dig_not h1.1
        rw [nextTk, if_neg n1, if_neg n2, if_neg n3, if_neg (by rw [n4]; simp), if_pos h1.1, hn]
    simp only [wb, wordToks] at h ⊢
    by_cases hn : n < 0
    · rw [if_pos hn]
      rw [itoaNeg hn] at h ⊢
      have h1 := h.tok (by simp) (nextTk_minus _) (Nat.le_refl 1)
      simp only [List.take_succ_cons, List.take_zero, List.drop_succ_cons, List.drop_zero] at h1
      have h2 := key _ (decDigits n.natAbs) 2 _ (decDigits_len_pos _) (hd _) h1
      rw [h2, List.length_cons, show col + ((decDigits n.natAbs).length + 1 : Nat) = col + (1 : Nat) + (decDigits n.natAbs).length by omega]
      simp
    · rw [if_neg hn]
      obtain ⟨m, rfl⟩ : ∃ m : Nat, n = m := ⟨n.toNat, by omega⟩
      rw [itoaNat] at h ⊢
      exact key acc (decDigits m) 2 col (decDigits_len_pos _) (hd m) h
theorem ws_toks {R : TRes} : ∀ (ws : List Wd) (acc : List TokD) (line col : Int), ws ≠ [] → (∀ w ∈ ws, w.fit) → ToksTo R acc (joinW (ws.map wb)) line col → R = .good (acc ++ wsToks line col ws ++ [⟨5, ⟨#[]⟩, line, wsEnd col ws⟩])
  | [], _, _, _, h, _, _ => absurd rfl h
  | [w], acc, line, col, _, hf, h => word_last (hf w (by simp)) h
  | w :: v :: l, acc, line, col, _, hf, h => by
    have e : joinW ((w :: v :: l).map wb) = wb w ++ 32 :: joinW ((v :: l).map wb) := by simp [joinW]
    rw [e] at h
    have h1 := word_toks (hf w (by simp)) (Or.inl rfl) h
    have h2 := h1.blank (by simp) (by rfl) (Nat.le_refl 1)
    rw [List.drop_succ_cons, List.drop_zero] at h2
    have h3 := ws_toks (v :: l) _ line _ (by simp) (fun w hw => hf w (by simp [hw])) h2
    rw [h3, wsToks, wsEnd]
    simp only [List.append_assoc]
    rfl
theorem lines_to {R : TRes} : ∀ (ls : List (List Wd)) (acc : List TokD) (r : List UInt8) (line : Int), (∀ l ∈ ls, ∀ w ∈ l, w.fit) → ToksTo R acc (ls.flatMap lineT ++ r) line 1 → ToksTo R (acc ++ linesToks line ls) r (line + ls.length) 1
  | [], acc, r, line, _, h => by simpa [linesToks] using h
  | l :: ls, acc, r, line, hf, h => by
    rw [List.flatMap_cons, List.append_assoc] at h
    have h1 := lines_to ls _ r (line + 1) (fun x hx => hf x (by simp [hx])) (line_toks l acc _ line 1 (hf l (by simp)) h)
    rw [linesToks, ← List.append_assoc, List.length_cons, show line + ((ls.length + 1 : Nat) : Int) = line + 1 + (ls.length : Int) by omega]
    exact h1
/-- without the newline at its end -/
theorem toks_cut {pre : List (List Wd)} {last : List Wd} (hf : ∀ l ∈ pre ++ [last], ∀ w ∈ l, w.fit) (hl : last ≠ []) :
    toks (pre.flatMap lineT ++ joinW (last.map wb)) = .good (linesToks 1 pre ++ wsToks (1 + pre.length) 1 last ++ [⟨5, ⟨#[]⟩, 1 + pre.length, wsEnd 1 last⟩]) := by
  have h1 := lines_to pre [] (joinW (last.map wb)) 1 (fun l hl => hf l (by simp [hl])) (ToksTo.start _)
  have h2 := ws_toks last _ _ _ hl (fun w hw => hf last (by simp) w hw) h1
  simpa using h2
theorem toks_full {pre : List (List Wd)} {last : List Wd} (hf : ∀ l ∈ pre ++ [last], ∀ w ∈ l, w.fit) :
    ∃ o, toks ((pre ++ [last]).flatMap lineT) = .good (linesToks 1 pre ++ wsToks (1 + pre.length) 1 last ++ o) := by
  rw [toks_text hf, all_app, allToks, line_ws]
  exact ⟨[⟨4, ⟨#[]⟩, 1 + pre.length, wsEnd 1 last⟩] ++ allToks (1 + pre.length + 1) [], by simp only [List.append_assoc]⟩
/-- of a text that can be read, without the newline at its end, the last line does not end -/
theorem cut_reads {pre : List (List Wd)} {last : List Wd} (hf : ∀ l ∈ pre ++ [last], ∀ w ∈ l, w.fit) (hl : last ≠ []) {L : List TokD} {v : (HouseP × SheetP) × List TokD}
    (h1 : toks ((pre ++ [last]).flatMap lineT) = .good L) (h2 : readR L = .ok v) :
    ∃ M c, toks (pre.flatMap lineT ++ joinW (last.map wb)) = .good M ∧ readR M = .error (1 + pre.length, c) := by
  obtain ⟨o, ho⟩ := toks_full hf
  rw [h1] at ho
  injection ho with ho
  subst ho
  refine ⟨_, wsEnd 1 last, toks_cut hf hl, ?_⟩
  refine read_cut (e := ⟨5, ⟨#[]⟩, 1 + pre.length, wsEnd 1 last⟩) rfl ⟨fun t ht => ?_, fun _ t ht => ?_⟩ (fun h => ws_some hl _ _ (List.append_eq_nil_iff.1 h).2) h2
  · rcases List.mem_append.1 ht with ht | ht
    · exact lines_kinds _ _ t ht
    · exact (ws_kinds _ _ _ t ht).2
  · exact (ws_kinds _ _ _ t (last_app (ws_some hl _ _) ht)).1
/-- a further line of a house -/
theorem more_reads {L : List (List Wd)} {l : List Wd} (hf : ∀ l' ∈ L ++ [.wd wHouse :: l], ∀ w ∈ l', w.fit) {T : List TokD} {v : (HouseP × SheetP) × List TokD}
    (h1 : toks (L.flatMap lineT) = .good T) (h2 : readR T = .ok v) : ∃ M, toks ((L ++ [.wd wHouse :: l]).flatMap lineT) = .good M ∧ readR M = .error (1 + L.length, 1) := by
  rw [toks_text (fun l hl => hf l (by simp [hl])), all_lines] at h1
  injection h1 with h1
  subst h1
  have e : allToks 1 (L ++ [.wd wHouse :: l]) = linesToks 1 L ++ (⟨1, ⟨wHouse.toArray⟩, 1 + L.length, 1⟩ :: (allToks (1 + L.length) [.wd wHouse :: l]).tail) := by
    rw [all_app, allToks]
    congr 1
    cases l with
    | nil => rfl
    | cons w l => rfl
  refine ⟨_, toks_text hf, ?_⟩
  rw [e]
  exact read_more (e := ⟨5, ⟨#[]⟩, 1 + L.length, 1⟩) rfl ⟨lines_kinds _ _, fun h => by cases h⟩ rfl (show stmtWord (bs ⟨wHouse.toArray⟩) = false by rw [bs_of]; decide) h2
end Go.Proofs.YtnjbfhfjdhfdlaaGreatDoor
namespace Go.Proofs.YtnjbfhfjdhfdlaaGreatDoor
open Go Go.RowKit

theorem dec_no10 (n : Nat) : ∀ c ∈ Lib.decDigits n, c ≠ 10 := fun c hc e => by
  have h := List.all_eq_true.1 (decDigits_all n) c hc
  rw [e] at h
  revert h; decide
theorem wd_no10 {w : Wd} (h : w.fit) : ∀ c ∈ wb w, c ≠ 10 := by
  intro c hc
  cases w with
  | wd l =>
    have hl : isNameL l = true := h
    simp only [isNameL, Bool.and_eq_true, decide_eq_true_eq] at hl
    have h4 := hl.2
    have h5 := word_clean l
    rw [h4, List.take_length] at h5
    exact h5 c hc
  | num n =>
    simp only [wb] at hc
    by_cases hn : n < 0
    · rw [itoaNeg hn] at hc
      rcases List.mem_cons.1 hc with rfl | hc
      · decide
      · exact dec_no10 _ c hc
    · obtain ⟨m, rfl⟩ : ∃ m : Nat, n = m := ⟨n.toNat, by omega⟩
      rw [itoaNat] at hc
      exact dec_no10 _ c hc
theorem join_no10 : ∀ (l : List (List UInt8)), (∀ w ∈ l, ∀ c ∈ w, c ≠ 10) → ∀ c ∈ joinW l, c ≠ 10
  | [], _, c, hc => by simp [joinW] at hc
  | [w], h, c, hc => h w (by simp) c hc
  | w :: v :: l, h, c, hc => by
    rw [joinW, List.mem_append, List.mem_cons] at hc
    rcases hc with hc | rfl | hc
    · exact h w (by simp) c hc
    · decide
    · exact join_no10 (v :: l) (fun x hx => h x (by simp [hx])) c hc
theorem line_no10 {ws : List Wd} (h : ∀ w ∈ ws, w.fit) : ∀ c ∈ joinW (ws.map wb), c ≠ 10 := join_no10 _ (fun x hx => by
  obtain ⟨w, hw, rfl⟩ := List.mem_map.1 hx
  exact wd_no10 (h w hw))
theorem count_lines : ∀ (L : List (List Wd)), (∀ l ∈ L, ∀ w ∈ l, w.fit) → (L.flatMap lineT).count 10 = L.length
  | [], _ => rfl
  | l :: L, h => by
    have h1 : (joinW (l.map wb)).count 10 = 0 := List.count_eq_zero.2 (fun hm => line_no10 (h l (by simp)) 10 hm rfl)
    rw [List.flatMap_cons, List.count_append, count_lines L (fun x hx => h x (by simp [hx])), lineT, List.count_append, h1, List.length_cons]
    simp; omega
theorem lines_split (h : HouseP) (c : SheetP) : ∃ pre last, linesP h c = pre ++ [last] := by
  have hne : linesP h c ≠ [] := by unfold linesP; simp
  exact ⟨(linesP h c).dropLast, (linesP h c).getLast hne, (List.dropLast_concat_getLast hne).symm⟩
theorem lines_ne {h : HouseP} {c : SheetP} : ∀ l ∈ linesP h c, l ≠ [] := by
  intro l hl
  simp only [linesP, List.mem_cons, List.mem_append, List.mem_map, List.mem_flatMap, setLns, cueLns] at hl
  rcases hl with rfl | ((⟨x, hx, rfl⟩ | ⟨s, hs, rfl | ⟨x, hx, rfl⟩ | ⟨x, hx, rfl⟩⟩) | ⟨q, hq, rfl | ⟨m, hm, rfl⟩⟩) | ⟨x, hx, rfl⟩ <;> simp [houseLn, roofLn, setLn, itemLn, brickLn, cueLn, moveLn, apartLn]
section
variable {h : HouseP} {c : SheetP} (hv : houseOkP h = true) (sv : sheetOkP c = true)
 include hv sv
theorem text_count : (textP h c).count 10 = (linesP h c).length := count_lines _ (lines_fit (house_fit hv).1 (sheet_fit sv).1)
/-- without the newline at its end -/
theorem srcE_cut : ∃ col, srcE (toks (Lib.trimSuffix (textP h c) [10])) = ((zeroH, zeroS), ((((textP h c).count 10 : Nat) : Int), col), 7) := by
  have hf := lines_fit (house_fit hv).1 (sheet_fit sv).1
  obtain ⟨pre, last, e⟩ := lines_split h c
  have hl : last ≠ [] := lines_ne last (by rw [e]; simp)
  obtain ⟨h1, r, h2⟩ := read_text (house_fit hv).1 (sheet_fit sv).1
  unfold textP at h1
  rw [e] at h1 h2 hf
  obtain ⟨M, col, h3, h4⟩ := cut_reads hf hl h1 h2
  have et : Lib.trimSuffix (textP h c) [10] = pre.flatMap lineT ++ joinW (last.map wb) := by
    have e2 : textP h c = (pre.flatMap lineT ++ joinW (last.map wb)) ++ [10] := by
      unfold textP
      rw [e, List.flatMap_append, List.flatMap_cons, List.flatMap_nil, List.append_nil, lineT, List.append_assoc]
    rw [e2]
    unfold Lib.trimSuffix Lib.hasSuffix
    rw [if_pos (List.isSuffixOf_iff_suffix.2 (List.suffix_append _ _))]
    rw [List.length_append, List.length_singleton, Nat.add_sub_cancel, List.take_left]
  refine ⟨col, ?_⟩
  rw [et, h3, text_count hv sv, e]
  simp only [srcE, h4]
  rw [List.length_append, List.length_singleton, show ((1 : Int) + (pre.length : Int)) = ((pre.length + 1 : Nat) : Int) by omega]
/-- with a further line of a house -/
theorem srcE_more : srcE (toks (textP h c ++ [104, 111, 117, 115, 101, 32, 97, 103, 97, 105, 110, 32, 53, 10])) = ((zeroH, zeroS), ((((textP h c).count 10 : Nat) : Int) + 1, 1), 7) := by
  have hf := lines_fit (house_fit hv).1 (sheet_fit sv).1
  obtain ⟨h1, r, h2⟩ := read_text (house_fit hv).1 (sheet_fit sv).1
  have hf2 : ∀ l' ∈ linesP h c ++ [.wd wHouse :: [.wd [97, 103, 97, 105, 110], .num 5]], ∀ w ∈ l', w.fit := by
    intro l' hl w hw
    rcases List.mem_append.1 hl with hl | hl
    · exact hf l' hl w hw
    · rw [List.mem_singleton.1 hl] at hw
      simp only [List.mem_cons, List.not_mem_nil, or_false] at hw
      rcases hw with rfl | rfl | rfl
      · exact (by decide : isNameL wHouse = true)
      · exact (by decide : isNameL [97, 103, 97, 105, 110] = true)
      · trivial
  obtain ⟨M, h3, h4⟩ := more_reads hf2 h1 h2
  have e5 : Lib.itoa 5 = [53] := by rw [show (5 : Int) = ((5 : Nat) : Int) from rfl, itoaNat, Lib.decDigits]; rfl
  have et : textP h c ++ [104, 111, 117, 115, 101, 32, 97, 103, 97, 105, 110, 32, 53, 10] = (linesP h c ++ [Wd.wd wHouse :: [Wd.wd [97, 103, 97, 105, 110], Wd.num 5]]).flatMap lineT := by
    rw [List.flatMap_append, textP, List.flatMap_cons, List.flatMap_nil, List.append_nil]
    congr 1
    simp [lineT, joinW, wb, e5, wHouse]
  rw [et, h3, text_count hv sv]
  simp only [srcE, h4]
  rw [show ((1 : Int) + ((linesP h c).length : Int)) = (((linesP h c).length : Nat) : Int) + 1 by omega]
/-- the first line alone -/
theorem srcE_first : ∃ rest, Lib.cut (textP h c) [10] = (joinW ((houseLn h).map wb), rest, true) ∧ srcE (toks (joinW ((houseLn h).map wb) ++ [10])) = ((⟨h.name, h.height, [], []⟩, ⟨[], []⟩), (0, 0), 0) := by
  have hf := lines_fit (house_fit hv).1 (sheet_fit sv).1
  have hno := line_no10 (hf (houseLn h) (by unfold linesP; simp))
  have e1 : textP h c = joinW ((houseLn h).map wb) ++ 10 :: (h.roofs.map roofLn ++ h.sets.flatMap setLns ++ c.cues.flatMap cueLns ++ c.apart.map apartLn).flatMap lineT := by
    unfold textP linesP
    rw [List.flatMap_cons, lineT, List.append_assoc]; rfl
  obtain ⟨R, hR⟩ : ∃ R, R = (h.roofs.map roofLn ++ h.sets.flatMap setLns ++ c.cues.flatMap cueLns ++ c.apart.map apartLn).flatMap lineT := ⟨_, rfl⟩
  rw [← hR] at e1
  refine ⟨R, ?_, ?_⟩
  · rw [e1]
    unfold Lib.cut
    rw [Lib.index_one]
    have hidx : ∀ (l R : List UInt8), (∀ c ∈ l, c ≠ 10) → Lib.indexByte (l ++ 10 :: R) 10 = (l.length : Int) := by
      intro l
      induction l with
      | nil => intro R _; simp [Lib.indexByte]
      | cons b l ih =>
        intro R hb
        have h2 := ih R (fun c hc => hb c (by simp [hc]))
        have h3 : (b == 10) = false := by simpa using hb b (by simp)
        rw [List.cons_append, Lib.indexByte, h3, h2]
        rw [if_neg (by simp), if_neg (by simp), List.length_cons]
        omega
    rw [hidx _ R hno, if_pos (by omega)]
    simp
  · have e2 : joinW ((houseLn h).map wb) ++ [10] = textP ⟨h.name, h.height, [], []⟩ ⟨[], []⟩ := by
      unfold textP linesP
      simp [lineT, houseLn]
    rw [e2]
    refine srcE_text ?_ (by decide)
    rw [houseOkP, houseOk, Bool.and_eq_true] at hv ⊢
    obtain ⟨a1, a2, a3, a4, a5⟩ := houseHead_iff.1 hv.1
    exact ⟨houseHead_iff.2 ⟨a1, a2, a3, by simp [HouseP.d], by simp [HouseP.d, roofsOk, allIdx, allIdxFrom]⟩, by simp [HouseP.d, allIdx, allIdxFrom]⟩
end
end Go.Proofs.YtnjbfhfjdhfdlaaGreatDoor
namespace Go.Proofs.YtnjbfhfjdhfdlaaGreatDoor
open Go Go.RowKit

theorem bs_cat (a b : ByteArray) : bs (a ++ b) = bs a ++ bs b := by simp [bs_data, ByteArray.data_append]
theorem drewN_gives {w : World} {n : Nat} : Below w.heap.size w (w.drewN n) := ⟨rfl, rfl, rfl, Nat.le_refl _, fun _ _ => rfl⟩
set_option maxRecDepth 100000 in
set_option maxHeartbeats 16000000 in
theorem sourceCut_any (h : HouseD) (s : SheetD) (hok : h.ok) (sok : s.ok) (w : World) (ht : TabsS w) (B : Nat) (hB : B ≤ w.heap.size) (hat : HouseD.at_ w B h) (sat : SheetD.at_ w B s) :
    Calls Tryz.prog 6 #[.agg #[.string h.name, .int .i64 h.height, .slice h.sets.A h.sets.l.length h.sets.cap, .slice h.roofs.A h.roofs.l.length h.roofs.cap], .agg #[.slice s.cues.A s.cues.l.length s.cues.cap, .slice s.apart.A s.apart.l.length s.apart.cap]] w (Gives w (.bool true)) := by
  obtain ⟨W1, hW1, hs1, hb1, hh1⟩ := boxed w (.cells #[.string h.name, .int .i64 h.height, .slice h.sets.A h.sets.l.length h.sets.cap, .slice h.roofs.A h.roofs.l.length h.roofs.cap] 25)
  obtain ⟨W, hW2, hs2, hb2, hh2⟩ := boxed W1 (.cells #[.slice s.cues.A s.cues.l.length s.cues.cap, .slice s.apart.A s.apart.l.length s.apart.cap] 29)
  have hb : Below w.heap.size w W := hb1.trans (hb2.mono (by omega))
  have hh1' := (hb2.block _ (by omega)).trans hh1
  rw [hs1] at hh2
  have hc := fun y : After W.heap.size W => And.intro (HouseD.boxed hh1' (by omega) y) (SheetD.boxed hh2 (by omega) y)
  have hbd : ∀ y : After W.heap.size W, Below w.heap.size w y.val := fun y => hb.trans (y.below.mono (by omega))
  have hatW := hat.to (hb.mono hB) (show B ≤ W.heap.size by omega)
  have satW := sat.to (hb.mono hB) (show B ≤ W.heap.size by omega)
  have htW := ht.below hb
  have KA := hide (Gives.first (awake31_any W htW))
  have KF := hide (fun y : After W.heap.size W => few_any h s y.val W.heap.size y.size (hatW.to y.below (Nat.le_refl _)) (satW.to y.below (Nat.le_refl _)))
  have KT := hide (fun (hmv : ∀ q ∈ s.cues.l, q.moves.l.length ≤ 20) (y : After W.heap.size W) => Gives.after (x := y) (Nat.le_refl _) (text_full h s hok sok (fun q hq => Nat.le_trans (hmv q hq) (by decide)) y.val (htW.below y.below).1 W.heap.size y.size (hatW.to y.below (Nat.le_refl _)) (satW.to y.below (Nat.le_refl _))))
  have HAT := hide (And.intro hatW satW)
  have HTW := hide htW
  have HBD := hide hbd
  have HH1 := hide hh1'
  have HH2 := hide hh2
  have HW := hide (show (w.alloc (.cells #[.string h.name, .int .i64 h.height, .slice h.sets.A h.sets.l.length h.sets.cap, .slice h.roofs.A h.roofs.l.length h.roofs.cap] 25)).alloc (.cells #[.slice s.cues.A s.cues.l.length s.cues.cap, .slice s.apart.A s.apart.l.length s.apart.cap] 29) = W by rw [← hW1, ← hW2])
  clear hW1 hW2 hb1 hb2 hh1 hh2 hh1' hat sat hatW satW hb hbd hok sok ht htW
  have hWsz : w.heap.size + 1 < W.heap.size := by omega
  go_enter Tryz.func6, Tryz.ntmps6
  go_upto_region 1 with fail
  rw [HW.out]
  go_wp2_with fail
  refine KA.out.mono ?_
  rintro e w' ⟨rfl, y, rfl⟩
  have hcy := hc y
  go_wp2_with fail
  refine (KF.out y).mono ?_
  rintro e w2 ⟨r, rfl, hbf, hmv0⟩
  obtain ⟨z, hz⟩ : ∃ z : After W.heap.size W, z.val = w2 := ⟨⟨w2, y.below.trans (hbf.mono y.size)⟩, rfl⟩
  rw [← hz]
  have hcz := hc z
  clear hbf hz
  cases r
  · go_wp2_with fail
    go_ret
    exact Gives.mk rfl (HBD.out z)
  have HMV := hide (hmv0 rfl)
  have KT2 := hide (KT.out HMV.out z)
  clear hmv0 KT
  have hcase : (houseOkP h.pl = true ∧ sheetOkP s.pl = true ∧ textV h.pl s.pl = .tuple #[.string ⟨(textP h.pl s.pl).toArray⟩, .int .i64 0]) ∨ ∃ k : Int, (k = 4 ∨ k = 1) ∧ textV h.pl s.pl = .tuple #[.string ⟨#[]⟩, .int .i64 k] := by
    rcases textV_cases h.pl s.pl with ⟨hv, sv, -, hT⟩ | hT | ⟨-, hT⟩ | ⟨-, -, hT⟩
    · exact Or.inl ⟨hv, sv, hT⟩
    · exact Or.inr ⟨4, Or.inl rfl, hT⟩
    · exact Or.inr ⟨1, Or.inr rfl, hT⟩
    · exact Or.inr ⟨1, Or.inr rfl, hT⟩
  rcases hcase with ⟨hv, sv, hT⟩ | ⟨k, hk, hT⟩
  rotate_left
  · rw [hT] at KT2
    clear hT
    rcases hk with rfl | rfl
    all_goals
      go_wp2_with fail
      refine KT2.out.mono ?_
      rintro e w' ⟨rfl, y1, rfl⟩
      go_wp2_with fail
      go_ret
      exact Gives.mk rfl (HBD.out y1)
  · rw [hT] at KT2
    obtain ⟨T, hTT⟩ : ∃ T : ByteArray, T = ⟨(textP h.pl s.pl).toArray⟩ := ⟨_, rfl⟩
    have hTb : bs T = textP h.pl s.pl := by rw [hTT]; exact bs_mk _
    rw [← hTT] at KT2
    by_cases hbig : (50000 : Int) < (T.size : Int)
    · clear hT hTT hTb hv sv
      go_wp2_with fail
      refine KT2.out.mono ?_
      rintro e w' ⟨rfl, y1, rfl⟩
      go_wp2_with fail
      go_ret
      exact Gives.mk rfl (HBD.out y1)
    obtain ⟨N, hN⟩ : ∃ N, N = (textP h.pl s.pl).count 10 := ⟨_, rfl⟩
    have hNs : N ≤ 50000 := by
      have h1 := List.count_le_length (a := (10 : UInt8)) (l := textP h.pl s.pl)
      have h2 := bs_length T
      rw [hTb] at h2
      omega
    obtain ⟨col, hc1⟩ := srcE_cut hv sv
    have hc2 := srcE_more hv sv
    obtain ⟨rest, hc3, hc4⟩ := srcE_first hv sv
    rw [← hN] at hc1 hc2
    obtain ⟨T1, hT1⟩ : ∃ T1 : ByteArray, T1 = ⟨(Lib.trimSuffix (textP h.pl s.pl) [10]).toArray⟩ := ⟨_, rfl⟩
    obtain ⟨T2, hT2⟩ : ∃ T2 : ByteArray, T2 = T ++ ⟨#[104, 111, 117, 115, 101, 32, 97, 103, 97, 105, 110, 32, 53, 10]⟩ := ⟨_, rfl⟩
    obtain ⟨F, hF⟩ : ∃ F : ByteArray, F = ⟨(joinW ((houseLn h.pl).map wb)).toArray⟩ := ⟨_, rfl⟩
    obtain ⟨R, hR⟩ : ∃ R : ByteArray, R = ⟨rest.toArray⟩ := ⟨_, rfl⟩
    obtain ⟨T3, hT3⟩ : ∃ T3 : ByteArray, T3 = F ++ ⟨#[10]⟩ := ⟨_, rfl⟩
    have b1 : bs T1 = Lib.trimSuffix (textP h.pl s.pl) [10] := by rw [hT1]; exact bs_mk _
    have b2 : bs T2 = textP h.pl s.pl ++ [104, 111, 117, 115, 101, 32, 97, 103, 97, 105, 110, 32, 53, 10] := by rw [hT2, bs_cat, hTb]; simp [bs_data]
    have b3 : bs T3 = joinW ((houseLn h.pl).map wb) ++ [10] := by rw [hT3, bs_cat, hF, bs_mk]; simp [bs_data]
    have z1 : T1.size ≤ 50000 := by
      rw [← bs_length, b1]
      have : (Lib.trimSuffix (textP h.pl s.pl) [10]).length ≤ (textP h.pl s.pl).length := by
        unfold Lib.trimSuffix
        split
        · rw [List.length_take]; omega
        · exact Nat.le_refl _
      have h2 := bs_length T
      rw [hTb] at h2
      omega
    have z2 : T2.size ≤ 60000 := by
      rw [hT2, ByteArray.size_append, show (⟨#[104, 111, 117, 115, 101, 32, 97, 103, 97, 105, 110, 32, 53, 10]⟩ : ByteArray).size = 14 from rfl]; omega
    have zF : F.size ≤ 50000 := by
      have e1 : F.size = (joinW ((houseLn h.pl).map wb)).length := by rw [← bs_length, hF, bs_mk]
      have e2 := congrArg (fun x : List UInt8 × List UInt8 × Bool => x.1.length) hc3
      simp only at e2
      have e3 : (Lib.cut (textP h.pl s.pl) [10]).1.length ≤ (textP h.pl s.pl).length := by
        unfold Lib.cut
        split
        · simp only [List.length_take]; omega
        · exact Nat.le_refl _
      have h2 := bs_length T
      rw [hTb] at h2
      omega
    have z3 : T3.size ≤ 50001 := by
      rw [hT3, ByteArray.size_append, show (⟨#[10]⟩ : ByteArray).size = 1 from rfl]; omega
    rw [← b1] at hc1
    rw [← b2] at hc2
    rw [← b3] at hc4
    have dT : T.data.toList = textP h.pl s.pl := by rw [← bs_data]; exact hTb
    have K1 := hide (fun x : World => (show Calls Tryz.prog 21 #[.string T, .string ⟨#[10]⟩] x (fun e w' => e = .returned (.string T1) ∧ w' = x) by
      have h1 := Tryz.strings_TrimSuffix T ⟨#[10]⟩ x (by omega)
      rw [dT, ← hT1] at h1
      exact h1))
    have K2 := hide (fun (x : World) (hx : Below W.heap.size W x) => (show Calls Tryz.prog 15 #[.string T1] x (ParsePost x ((zeroH, zeroS), ((N : Int), col), 7)) by rw [← hc1]; exact parse_any T1 (by omega) x (HTW.out.below hx)))
    have K3 := hide (fun x : World => (show Calls Tryz.prog 22 #[.string T, .string ⟨#[10]⟩] x (Gives x (.int .i64 (N : Int))) by
      refine (Tryz.strings_Count_one T 10 x).mono ?_
      rintro e w' ⟨rfl, rfl⟩
      refine ⟨?_, Below.refl _ _⟩
      rw [dT, hN]; rfl))
    have K4 := hide (fun (x : World) (hx : Below W.heap.size W x) => (show Calls Tryz.prog 15 #[.string T2] x (ParsePost x ((zeroH, zeroS), ((N : Int) + 1, 1), 7)) by rw [← hc2]; exact parse_any T2 (by omega) x (HTW.out.below hx)))
    have K5 := hide (fun (x : World) (hx : Below W.heap.size W x) => (show Calls Tryz.prog 23 #[.string T, .string ⟨#[10]⟩] x (Gives x (.tuple #[.string F, .string R, .bool true])) by
      obtain ⟨m, hm⟩ := (HTW.out.below hx).1.2.2
      refine (Tryz.strings_Cut T ⟨#[10]⟩ m x (by omega) hm).mono ?_
      rintro e w' ⟨rfl, n, rfl⟩
      refine ⟨?_, drewN_gives⟩
      rw [dT, show (⟨#[10]⟩ : ByteArray).data.toList = [10] from rfl, hc3, ← hF, ← hR]))
    have K6 := hide (fun (x : World) (hx : Below W.heap.size W x) => (show Calls Tryz.prog 15 #[.string T3] x (ParsePost x ((⟨h.name, h.height, [], []⟩, ⟨[], []⟩), (0, 0), 0)) by
      have h1 := parse_any T3 (by omega) x (HTW.out.below hx)
      rw [hc4] at h1
      exact h1))
    have HT2 := hide hT2
    have HT3 := hide hT3
    have hnb1 : ¬ 9223372036854775807 < T.size + 14 := by omega
    have hnb2 : ¬ 9223372036854775807 < F.size + 1 := by omega
    have hwr : IntKind.i64.wrap ((N : Int) + 1) = (N : Int) + 1 := by rw [IntKind.wrap_i64]; omega
    clear hv sv hT hTT hTb hN hc1 hc2 hc3 hc4 hT1 hT2 hF hR hT3 b1 b2 b3 dT z1 z2 z3 zF
    go_wp2_with fail
    refine KT2.out.mono ?_
    rintro e w' ⟨rfl, y1, rfl⟩
    go_wp2_with fail
    refine (K1.out y1.val).mono ?_
    rintro e w' ⟨rfl, rfl⟩
    go_wp2_with fail
    refine (K2.out y1.val y1.below).mono ?_
    rintro e w3 ⟨hb3, a1, s1, rfl, -, -, -, -, -, -, -⟩
    obtain ⟨V3, hV3, hs3, hv3, hh3, hh4, hh5⟩ := three_boxed w3 (.cells #[.string a1.name, .int .i64 a1.height, .slice a1.sets.A a1.sets.l.length a1.sets.cap, .slice a1.roofs.A a1.roofs.l.length a1.roofs.cap] 25 (0, 0)) (.cells #[.slice s1.cues.A s1.cues.l.length s1.cues.cap, .slice s1.apart.A s1.apart.l.length s1.apart.cap] 29 (0, 0)) (.cells #[.int .i64 (N : Int), .int .i64 col] 40 (0, 0))
    have hBV3 : Below y1.val.heap.size y1.val V3 := hb3.trans (hv3.mono hb3.size)
    have hBW3 : Below W.heap.size W V3 := y1.below.trans (hBV3.mono y1.size)
    have f5 := fun x : After V3.heap.size V3 => And.intro (x.cells hh5 (by omega) 0 _ rfl) (x.cells hh5 (by omega) 1 _ rfl)
    have f50 := f5 (After.refl _ _)
    simp only [After.refl] at f50
    have HV3 := hide hV3
    have HH5 := hide hh5
    have KC := hide (fun z : After V3.heap.size V3 => Gives.after (x := z) (Nat.le_refl _) (K3.out z.val))
    have hgs : w3.heap.size + 1 + 1 < V3.heap.size := by omega
    have hw3s : W.heap.size ≤ w3.heap.size := Nat.le_trans y1.size hb3.size
    clear hV3 hb3 hv3 hh3 hh4 hh5 hs3
    go_upto_region 9 with fail
    rw [← HV3.out]
    refine wp_region_after (After.refl V3.heap.size V3) (by kernel_rfl) (by kernel_rfl) ?_
    repeat (go_big_quiet_step ((go_at_call 22; exact KC.out _)))
    refine wpQuiet_nil ?_
    intro z3
    have hz3 : Below W.heap.size W z3.val := hBW3.trans (z3.below.mono hBW3.size)
    have HZ3 := hide hz3
    have aH := (z3.below.block (w3.heap.size + 1 + 1) hgs).trans HH5.out
    have AH := hide aH
    go_wp2_with fail
    rw [← HT2.out]
    refine (K4.out z3.val HZ3.out).mono ?_
    rintro e w4 ⟨hb4, a2, s2, rfl, -, -, -, -, -, -, -⟩
    have hz30 := z3.size
    have hb4s := hb4.size
    have aB : w4.heap[w3.heap.size + 1 + 1]? = some (.cells #[.int .i64 (N : Int), .int .i64 col] 40 (0, 0)) := (hb4.block _ (by omega)).trans AH.out
    have aF0 : w4.frozen? ⟨w3.heap.size + 1 + 1, 0, none⟩ = false := block_unfrozen aB 0
    have aB1 : (w4.setCell ⟨w3.heap.size + 1 + 1, 0, none⟩ (.int .i64 ((N : Int) + 1))).heap[w3.heap.size + 1 + 1]? = some (.cells #[.int .i64 ((N : Int) + 1), .int .i64 col] 40 (0, 0)) := block_set aB _
    have aF1 : (w4.setCell ⟨w3.heap.size + 1 + 1, 0, none⟩ (.int .i64 ((N : Int) + 1))).frozen? ⟨w3.heap.size + 1 + 1, 1, none⟩ = false := block_unfrozen aB1 1
    have aB2 : ((w4.setCell ⟨w3.heap.size + 1 + 1, 0, none⟩ (.int .i64 ((N : Int) + 1))).setCell ⟨w3.heap.size + 1 + 1, 1, none⟩ (.int .i64 1)).heap[w3.heap.size + 1 + 1]? = some (.cells #[.int .i64 ((N : Int) + 1), .int .i64 1] 40 (0, 0)) := block_set aB1 _
    have aC := two_cells aB
    have aC1 := two_cells aB1
    have hW3 := hBW3.size
    have y1s := y1.size
    have hb3s : W.heap.size ≤ w3.heap.size := hw3s
    have hBX : Below W.heap.size W ((w4.setCell ⟨w3.heap.size + 1 + 1, 0, none⟩ (.int .i64 ((N : Int) + 1))).setCell ⟨w3.heap.size + 1 + 1, 1, none⟩ (.int .i64 1)) := ((HZ3.out.trans (hb4.mono HZ3.out.size)).setCell (p := ⟨w3.heap.size + 1 + 1, 0, none⟩) (show W.heap.size ≤ w3.heap.size + 1 + 1 by omega) _).setCell (p := ⟨w3.heap.size + 1 + 1, 1, none⟩) (show W.heap.size ≤ w3.heap.size + 1 + 1 by omega) _
    obtain ⟨X, hX⟩ : ∃ X, X = (w4.setCell ⟨w3.heap.size + 1 + 1, 0, none⟩ (.int .i64 ((N : Int) + 1))).setCell ⟨w3.heap.size + 1 + 1, 1, none⟩ (.int .i64 1) := ⟨_, rfl⟩
    rw [← hX] at aB2 hBX
    have hXs : w3.heap.size + 1 + 1 < X.heap.size := (Array.getElem?_eq_some_iff.1 aB2).1
    have f6 := fun x : After X.heap.size X => And.intro (x.cells aB2 hXs 0 _ rfl) (x.cells aB2 hXs 1 _ rfl)
    have f60 := f6 (After.refl _ _)
    simp only [After.refl] at f60
    have HX := hide hX
    have HBX := hide hBX
    have KC2 := hide (fun z : After X.heap.size X => Gives.after (x := z) (Nat.le_refl _) (K3.out z.val))
    clear aB aB1 aB2 hX hb4 hBX f5 f50 KC aH
    go_upto_region 12 with fail
    rw [← HX.out]
    refine wp_region_after (After.refl X.heap.size X) (by kernel_rfl) (by kernel_rfl) ?_
    repeat (go_big_quiet_step ((go_at_call 22; exact KC2.out _)))
    refine wpQuiet_nil ?_
    intro z6
    have HZ6 := hide (show Below W.heap.size W z6.val from HBX.out.trans (z6.below.mono HBX.out.size))
    go_wp2_with fail
    refine (K5.out z6.val HZ6.out).mono ?_
    rintro e w7 ⟨rfl, hb7⟩
    have HW7 := hide (show Below W.heap.size W w7 from HZ6.out.trans (hb7.mono HZ6.out.size))
    clear hb7
    go_wp2_with fail
    rw [← HT3.out]
    refine (K6.out w7 HW7.out).mono ?_
    rintro e w8 ⟨hb8, ⟨an, ah, ⟨sA, sc, sl⟩, ⟨rA, rc, rl⟩⟩, ⟨⟨cA, cc, cl⟩, ⟨pA, pc, pl⟩⟩, rfl, -, -, hp, hq, -, -, -⟩
    simp only [HouseD.pl, SheetD.pl, HouseP.mk.injEq, SheetP.mk.injEq, List.map_eq_nil_iff] at hp hq
    obtain ⟨rfl, rfl, rfl, rfl⟩ := hp
    obtain ⟨rfl, rfl⟩ := hq
    obtain ⟨V8, hV8, hs8, hv8, hg1, hg2, -⟩ := three_boxed w8 (.cells #[.string h.name, .int .i64 h.height, .slice sA 0 sc, .slice rA 0 rc] 25 (0, 0)) (.cells #[.slice cA 0 cc, .slice pA 0 pc] 29 (0, 0)) (.cells #[.int .i64 0, .int .i64 0] 40 (0, 0))
    have hB8 : Below W.heap.size W V8 := (HW7.out.trans (hb8.mono HW7.out.size)).trans (hv8.mono (Nat.le_trans HW7.out.size hb8.size))
    have HB8 := hide hB8
    have d1 : V8.heap[w.heap.size]? = _ := (hB8.block w.heap.size (by omega)).trans HH1.out
    have d1s : w.heap.size < V8.heap.size := (Array.getElem?_eq_some_iff.1 d1).1
    have f1 := HouseD.boxed (h := h) d1 d1s (After.refl V8.heap.size V8)
    have e1 := And.intro ((After.refl V8.heap.size V8).cells hg1 (by omega) 0 _ rfl) (And.intro ((After.refl V8.heap.size V8).cells hg1 (by omega) 1 _ rfl) (And.intro ((After.refl V8.heap.size V8).cells hg1 (by omega) 2 _ rfl) ((After.refl V8.heap.size V8).cells hg1 (by omega) 3 _ rfl)))
    have e2 := And.intro ((After.refl V8.heap.size V8).cells hg2 (by omega) 0 _ rfl) ((After.refl V8.heap.size V8).cells hg2 (by omega) 1 _ rfl)
    simp only [After.refl] at f1 e1 e2
    have hnn : (h.name.toList == h.name.toList) = true := by simp
    have HV8 := hide hV8
    clear hV8 hs8 hv8 hg1 hg2 d1 hB8 hb8
    go_upto_region 16 with fail
    rw [← HV8.out]
    go_wp2_with fail
    go_ret
    exact Gives.mk rfl (HBD.out ⟨V8, HB8.out⟩)
end Go.Proofs.YtnjbfhfjdhfdlaaGreatDoor
