/- The reader's method last. The numbers of a new struct, read. How the rows in the reader's rows turn. How the rows of moves in the reader's rows turn. How the reader's four rows grow. A new set among the reader's rows. The numbers to the end of a line, one by one: in plain Lean. What the reader's method set holds while it reads the lines. The nine numbers of a set, put into its cells. -/
import Derived.Test.YtcdkhlndohokcaaGreatDoorSrcMem
import Derived.BigQuiet
import Derived.Test.YtcdkhlndohokcaaGreatDoorSrcToks
namespace Go.Proofs.YtcdkhlndohokcaaGreatDoor
open Go.RowKit

theorem own_cases {w : World} {base : Nat} {e : TypeId} {size n : Nat} {A : Option Addr} {cap : Nat} {xs : List Value} (h : w.ownsRow base e size (.slice A n cap) n xs) : (A = none ∧ cap = 0 ∧ n = 0) ∨ ∃ g cur, A = some ⟨g, 0, none⟩ ∧ base ≤ g ∧ w.heap[g]? = some (.cells cur e (0, 0)) ∧ n ≤ cap ∧ cap ≤ maxLen ∧ cur.size = cap * size ∧ cur.toList.take (n * size) = xs := by
  rcases h.2 with ⟨h1, h2⟩ | ⟨g, c, cur, h1, h2, h3, h4, h5, h6, h7⟩
  · injection h1 with a b c
    exact Or.inl ⟨a, c, h2⟩
  · injection h1 with a b c'
    subst a
    subst c'
    exact Or.inr ⟨g, cur, rfl, h2, h3, h4, h5, h6, h7⟩
end Go.Proofs.YtcdkhlndohokcaaGreatDoor
namespace Go.Proofs.YtcdkhlndohokcaaGreatDoor
open Go.RowKit

end Go.Proofs.YtcdkhlndohokcaaGreatDoor
namespace Go.Proofs.YtcdkhlndohokcaaGreatDoor
open Go.RowKit

theorem flat_len' {α : Type} {cells : α → List Value} {size : Nat} (hs : ∀ x, (cells x).length = size) : ∀ l : List α, (l.flatMap cells).length = l.length * size
  | [] => by simp
  | x :: l => by rw [List.flatMap_cons, List.length_append, hs, flat_len' hs l, List.length_cons, Nat.add_mul, Nat.one_mul, Nat.add_comm]
theorem flat_last {α : Type} {cells : α → List Value} {size : Nat} (hs : ∀ x, (cells x).length = size) (l : List α) (x : α) (j : Nat) : ((l ++ [x]).flatMap cells)[l.length * size + j]? = (cells x)[j]? := by
  rw [List.flatMap_append, List.getElem?_append_right (by rw [flat_len' hs]; omega), flat_len' hs]
  simp
theorem flat_set {α : Type} {cells : α → List Value} {size : Nat} (hs : ∀ x, (cells x).length = size) (l : List α) {x y : α} {j : Nat} {v : Value} (h : cells y = (cells x).set j v) : ((l ++ [x]).flatMap cells).set (l.length * size + j) v = (l ++ [y]).flatMap cells := by
  rw [List.flatMap_append, List.set_append_right _ _ (by rw [flat_len' hs]; omega), flat_len' hs, List.flatMap_append]
  congr 1
  simp [h]
theorem own_set {w : World} {base : Nat} {e : TypeId} {size n g cap : Nat} {xs : List Value} (h : w.ownsRow base e size (.slice (some ⟨g, 0, none⟩) n cap) n xs) {i : Nat} (v : Value) : (w.setCell ⟨g, i, none⟩ v).ownsRow base e size (.slice (some ⟨g, 0, none⟩) n cap) n (xs.set i v) := by
  rcases own_cases h with ⟨h1, _⟩ | ⟨g', cur, h1, h2, h3, h4, h5, h6, h7⟩
  · cases h1
  · injection h1 with h1
    injection h1 with h1
    subst h1
    refine ⟨by rw [List.length_set]; exact h.1, Or.inr ⟨g, cap, cur.setIfInBounds i v, rfl, h2, block_set h3 v, h4, h5, by simp [h6], ?_⟩⟩
    rw [Array.toList_setIfInBounds, ← h7, List.take_set]
theorem itemCells_len' (x : ItemD) : x.cells.length = 7 := rfl
theorem brickCells_len' (x : BrickD) : x.cells.length = 3 := rfl
theorem setCells_len' (x : SetD) : x.cells.length = 13 := rfl
theorem cueCells_len' (x : CueD) : x.cells.length = 7 := rfl
def addItemTo (s : SetD) (A : Option Addr) (cap : Nat) (x : ItemD) : SetD := { s with items := ⟨A, cap, s.items.l ++ [x]⟩ }
section
variable {rb n : Nat} {tv : Value} {L : List TokD} {nm : ByteArray} {ht : Int} {S : Sl SetD} {R : Sl RoofD} {C : Sl CueD} {A : Sl (ByteArray × ByteArray)} {w : World} {S0 : List SetD} {s : SetD}
theorem memRows_items (hS : S.l = S0 ++ [s]) : memRows S R C A = (⟨26, 13, S.val, S.l.length, S.l.flatMap SetD.cells⟩ :: ⟨94, 4, R.val, R.l.length, R.l.flatMap RoofD.cells⟩ :: ⟨97, 7, C.val, C.l.length, C.l.flatMap CueD.cells⟩ :: ⟨100, 2, A.val, A.l.length, A.l.flatMap pairCells⟩ :: (S0.flatMap SetD.rows ++ [⟨3, 1, s.lines.val, s.lines.l.length, s.lines.l.flatMap intCells⟩])) ++ ⟨63, 7, s.items.val, s.items.l.length, s.items.l.flatMap ItemD.cells⟩ :: (⟨65, 3, s.bricks.val, s.bricks.l.length, s.bricks.l.flatMap BrickD.cells⟩ :: C.l.flatMap CueD.rows) := by
  simp [memRows, hS, SetD.rows]
end
end Go.Proofs.YtcdkhlndohokcaaGreatDoor
namespace Go.Proofs.YtcdkhlndohokcaaGreatDoor
open Go.RowKit

theorem moveCells_len' (x : MoveD) : x.cells.length = 5 := rfl
def addMoveTo (q : CueD) (A : Option Addr) (cap : Nat) (x : MoveD) : CueD := { q with moves := ⟨A, cap, q.moves.l ++ [x]⟩ }
section
variable {rb n : Nat} {tv : Value} {L : List TokD} {nm : ByteArray} {ht : Int} {S : Sl SetD} {R : Sl RoofD} {C : Sl CueD} {A : Sl (ByteArray × ByteArray)} {w : World} {C0 : List CueD} {q : CueD}
theorem memRows_moves (hC : C.l = C0 ++ [q]) : memRows S R C A = (⟨26, 13, S.val, S.l.length, S.l.flatMap SetD.cells⟩ :: ⟨94, 4, R.val, R.l.length, R.l.flatMap RoofD.cells⟩ :: ⟨97, 7, C.val, C.l.length, C.l.flatMap CueD.cells⟩ :: ⟨100, 2, A.val, A.l.length, A.l.flatMap pairCells⟩ :: (S.l.flatMap SetD.rows ++ C0.flatMap CueD.rows)) ++ ⟨99, 5, q.moves.val, q.moves.l.length, q.moves.l.flatMap MoveD.cells⟩ :: [] := by
  simp [memRows, hC, CueD.rows]
end
end Go.Proofs.YtcdkhlndohokcaaGreatDoor
namespace Go.Proofs.YtcdkhlndohokcaaGreatDoor
open Go.RowKit

theorem roofCells_len' (x : RoofD) : x.cells.length = 4 := rfl
theorem pairCells_len' (x : ByteArray × ByteArray) : (pairCells x).length = 2 := rfl
section
variable {rb n : Nat} {tv : Value} {L : List TokD} {nm : ByteArray} {ht : Int} {S : Sl SetD} {R : Sl RoofD} {C : Sl CueD} {A : Sl (ByteArray × ByteArray)} {w w' : World}
end
end Go.Proofs.YtcdkhlndohokcaaGreatDoor
namespace Go.Proofs.YtcdkhlndohokcaaGreatDoor
open Go.RowKit

theorem three_perm {α : Type} (a b c : α) (Q Y : List α) : (c :: b :: a :: (Q ++ Y)).Perm (Q ++ ([a, b, c] ++ Y)) := by
  have h1 : (([c, b, a] ++ Q) ++ Y).Perm ((Q ++ [c, b, a]) ++ Y) := List.perm_append_comm.append_right Y
  have h2 : (Q ++ ([c, b, a] ++ Y)).Perm (Q ++ ([a, b, c] ++ Y)) := List.Perm.append_left Q ((List.reverse_perm [a, b, c]).append_right Y)
  rw [List.append_assoc] at h1
  exact h1.trans ((by rw [List.append_assoc] : (Q ++ [c, b, a]) ++ Y = Q ++ ([c, b, a] ++ Y)) ▸ h2)
section
variable {rb n : Nat} {tv : Value} {L : List TokD} {nm : ByteArray} {ht : Int} {S : Sl SetD} {R : Sl RoofD} {C : Sl CueD} {A : Sl (ByteArray × ByteArray)} {w w' : World}
def linesRow (v : Value) (l : List Int) : Row := ⟨3, 1, v, l.length, l.flatMap intCells⟩
end
end Go.Proofs.YtcdkhlndohokcaaGreatDoor
namespace Go.Proofs.YtcdkhlndohokcaaGreatDoor
open Go.RowKit

/-- what a loop over the numbers of a line has read -/
def MoreTo (F : Nat) (ts : List TokD) (l : List Int) (more : Bool) (ts' : List TokD) : Prop :=
  match more with
  | true => ∃ f, ts'.length ≤ f ∧ moreR F ts = bindR (moreR f ts') fun l' r => .ok (l ++ l', r)
  | false => moreR F ts = .ok (l, ts')
theorem MoreTo.start (ts : List TokD) : MoreTo ts.length ts [] true ts := by
  refine ⟨ts.length, Nat.le_refl _, ?_⟩
  cases moreR ts.length ts with
  | error p => rfl
  | ok v => rfl
theorem moreR_err {f : Nat} {ts : List TokD} {q : Int × Int} (h : numR ts = .error q) : moreR (f + 1) ts = .error q := by rw [moreR, h]
theorem MoreTo.err {F : Nat} {ts ts' : List TokD} {l : List Int} {q : Int × Int} (h : MoreTo F ts l true ts') (hne : ts' ≠ []) (hv : numR ts' = .error q) : moreR F ts = .error q := by
  obtain ⟨f, hf, h1⟩ := h
  cases f with
  | zero => exact absurd (List.eq_nil_of_length_eq_zero (by omega)) hne
  | succ f => rw [h1, moreR_err hv]; rfl
theorem MoreTo.step {F : Nat} {ts ts' r : List TokD} {l : List Int} {v : Int} (h : MoreTo F ts l true ts') (hne : ts' ≠ []) (hv : numR ts' = .ok (v, r)) : MoreTo F ts (l ++ [v]) (decide (kindT r ≠ 4)) r := by
  obtain ⟨f, hf, h1⟩ := h
  cases f with
  | zero => exact absurd (List.eq_nil_of_length_eq_zero (by omega)) hne
  | succ f =>
    have hl := num_less ts' v r hv
    by_cases hk : kindT r = 4
    · rw [decide_eq_false (by simpa using hk)]
      show moreR F ts = _
      rw [h1, moreR, hv]
      simp only [hk, if_true, bindR]
    · rw [decide_eq_true hk]
      refine ⟨f, by omega, ?_⟩
      rw [h1, moreR, hv]
      simp only [if_neg hk]
      cases moreR f r with
      | error p => rfl
      | ok w => simp [bindR]
end Go.Proofs.YtcdkhlndohokcaaGreatDoor
namespace Go.Proofs.YtcdkhlndohokcaaGreatDoor
open Go.RowKit

def setBox (nm : ByteArray) (a : List Int) (v : Value) : Array Value := #[.string nm, .int .i64 (nth a 0), .int .i64 (nth a 1), .int .i64 (nth a 2), .int .i64 (nth a 3), v, .int .i64 (nth a 4), .int .i64 (nth a 5), .int .i64 (nth a 6), .int .i64 (nth a 7), .int .i64 (nth a 8), .slice none 0 0, .slice none 0 0]
theorem Rows.kept2 {base : Nat} {w w' : World} {rs : List Row} {row : Option Nat} (h : Rows base w rs) (hg : w.grownBy w' row) (hne : ∀ r ∈ rs, r.v.ownBlock = none ∨ r.v.ownBlock ≠ row) : Rows base w' rs := ⟨fun r hm => (h.all r hm).kept hg (hne r hm), h.sep⟩
theorem Rows.tail {base : Nat} {w : World} {r : Row} {rs : List Row} (h : Rows base w (r :: rs)) : Rows base w rs := ⟨fun r hm => h.all r (List.mem_cons_of_mem _ hm), (List.pairwise_cons.1 h.sep).2⟩
section
variable {rb sb : Nat} {tv : Value} {L : List TokD} {hn : ByteArray} {ht : Int} {S : Sl SetD} {R : Sl RoofD} {C : Sl CueD} {A : Sl (ByteArray × ByteArray)} {u : World} {nm : ByteArray} {a : List Int} {v : Value} {l : List Int} {m : Nat} {x y : World}
end
end Go.Proofs.YtcdkhlndohokcaaGreatDoor
namespace Go.Proofs.YtcdkhlndohokcaaGreatDoor
open Go.RowKit

theorem putN_set (nm : ByteArray) (a1 a2 a3 a4 a5 a6 a7 a8 a9 : Int) : putN #[.string nm, .int .i64 0, .int .i64 0, .int .i64 0, .int .i64 0, .slice none 0 0, .int .i64 0, .int .i64 0, .int .i64 0, .int .i64 0, .int .i64 0, .slice none 0 0, .slice none 0 0] [1, 2, 3, 4, 6, 7, 8, 9, 10] [a1, a2, a3, a4, a5, a6, a7, a8, a9] = setBox nm [a1, a2, a3, a4, a5, a6, a7, a8, a9] (.slice none 0 0) := by
  simp [putN, setBox, nth]
end Go.Proofs.YtcdkhlndohokcaaGreatDoor
