/- A set of names as a map that the call makes: which names stand in it, its reading and its writing. -/
import Derived.Test.YtgamhdbcejkllaaGreatDoorReeveSpec
import Derived.Maps.OwnSet
import Derived.WalkKit
namespace Go.Proofs.YtgamhdbcejkllaaGreatDoor
open Go.RowKit Go.Maps

theorem keyStr : Keyed Tryz.prog 9 := string_keyed Tryz.underlying9
def inNames (s : ByteArray) (xs : List ByteArray) : Bool := xs.any fun t => sameName t s
theorem inNames_cons (s t : ByteArray) (xs : List ByteArray) : inNames s (t :: xs) = (sameName t s || inNames s xs) := by simp [inNames]
/-- block b is a map of the names xs, each with true -/
def Seen (w : World) (b : Nat) (xs : List ByteArray) : Prop :=
  ∃ D : DataW Unit, w.ownsMap Tryz.prog 9 (plainElem Tryz.prog 4) b xs.length D ∧ ∀ (s : ByteArray) z, D.atKey (.string s.data.toList) z = if inNames s xs then .lit (.bool true) else z
theorem Seen.lt {w : World} {b : Nat} {xs : List ByteArray} (h : Seen w b xs) : b < w.heap.size := by obtain ⟨D, h1, _⟩ := h; exact h1.lt
theorem Seen.kept {w w' : World} {b : Nat} {xs : List ByteArray} (h : Seen w b xs) (hb : w'.heap[b]? = w.heap[b]?) : Seen w' b xs := by
  obtain ⟨D, ⟨es, clock, h1, h2⟩, h3⟩ := h
  exact ⟨D, ⟨es, clock, hb.trans h1, h2⟩, h3⟩
theorem Seen.below {w w' : World} {b : Nat} {xs : List ByteArray} (h : Seen w b xs) (hb : Below w.heap.size w w') : Seen w' b xs := h.kept (hb.block b h.lt)
theorem Seen.alloc {w : World} {b : Nat} {xs : List ByteArray} (h : Seen w b xs) (o : Obj) : Seen (w.alloc o) b xs := h.below ((Below.refl _ _).alloc (Nat.le_refl _) _)
set_option maxRecDepth 100000 in
theorem Seen.made (w : World) : Seen (w.alloc (.map #[] 0)) w.heap.size [] := ⟨.map [], World.ownsMap_made _ _ _ _, fun _ _ => rfl⟩
set_option maxRecDepth 100000 in
theorem bool_elem {v : Value} {b : Bool} {ps : List MemPlace} (h : plainElem (H := Unit) Tryz.prog 4 v = some (.lit (.bool b), ps)) : v = .bool b := by
  unfold plainElem at h
  rw [Tryz.underlying4] at h
  cases v <;> simp at h
  rw [h.1]
theorem Seen.lookup {w : World} {b : Nat} {xs : List ByteArray} (h : Seen w b xs) (s : ByteArray) (hs : s.size ≤ maxLen) : (Instr.lookup 82 (.map (some b)) (.string s) false).run Tryz.prog w = .ok (.bool (inNames s xs)) w := by
  obtain ⟨D, h1, h2⟩ := h
  obtain ⟨v, ps, hrun, hv⟩ := h1.lookup keyStr Tryz.underlying82 (show (zeroValue 4).run Tryz.prog w = .ok (.bool false) w by kernel_rfl) (plainElem_bool Tryz.underlying4 false) (WideMaps.keyOf_string_mk Tryz.underlying9 hs)
  rw [h2] at hv
  have e : v = .bool (inNames s xs) := by
    cases hm : inNames s xs
    · rw [hm, if_neg (by simp)] at hv; exact bool_elem hv
    · rw [hm, if_pos rfl] at hv; exact bool_elem hv
  rw [hrun, e]
theorem Seen.put {w' : World} {b : Nat} {xs : List ByteArray} {s : ByteArray} {D : DataW Unit} (h3 : ∀ (s : ByteArray) z, D.atKey (.string s.data.toList) z = if inNames s xs then .lit (.bool true) else z) (hD : IsMap D) (h1 : w'.ownsMap Tryz.prog 9 (plainElem Tryz.prog 4) b (xs.length + 1) (D.put (.string s.data.toList) (.lit (.bool true)))) : Seen w' b (s :: xs) := by
  refine ⟨_, h1, fun t z => ?_⟩
  by_cases e : t = s
  · subst e
    rw [atKey_put_same hD (by trivial), inNames_cons, sameName_refl]
    rfl
  · rw [atKey_put_other (fun h => e (by
      injection h with h
      cases t; cases s
      simp only [ByteArray.mk.injEq]
      exact Array.toList_inj.1 h)), h3, inNames_cons, sameName_false.2 (fun h => e h.symm)]
    rfl
/-- m[s] = true, at the operation -/
theorem wpList_seen {w : World} {ops : Array Oper} {rest : List Oper} {o : Oper} {a : Act} {Q : Exit → Act → World → Prop} {b : Nat} {xs : List ByteArray} (h : Seen w b xs) (s : ByteArray) (hs : s.size ≤ maxLen) (hn : xs.length < maxLen)
    (hg : o.guard = none) (m x v : Operand) (hop : o.op = Op.mapUpdate 82 m x v) (hm : a.eval m = .map (some b)) (hx : a.eval x = .string s) (hv : a.eval v = .bool true)
    (hK : ∀ w', Seen w' b (s :: xs) → w.grownBy w' (some b) → wpList Tryz.prog ops Q rest (a.put o.dst undef) w') : wpList Tryz.prog ops Q (o :: rest) a w := by
  obtain ⟨D, h1, h2⟩ := h
  exact wpList_mapUpdate_own w hg m x v 82 hop 9 4 keyStr Tryz.underlying82 (plainElem Tryz.prog 4) b xs.length D hm h1 hn (.string s) (.bool true) (.string s.data.toList) hx hv (WideMaps.keyOf_string_mk Tryz.underlying9 hs) (.lit (.bool true)) [] (plainElem_bool Tryz.underlying4 true) fun w' h' hg' => hK w' (Seen.put h2 h1.isMap h') hg'
end Go.Proofs.YtgamhdbcejkllaaGreatDoor
