/- The names of a log's entries as a map that the call makes: whether the last entry of a name retires it. -/
import Derived.Test.YtemlaliackblkaaDoorLedMem
import Derived.Maps.OwnSet
import Derived.WalkKit
namespace Go.Proofs.YtemlaliackblkaaDoor
open Go.RowKit Go.Maps

theorem keyStr : Keyed Tryd.prog 9 := string_keyed Tryd.underlying9
def named (l : List LogD) (s : ByteArray) : Bool := l.any fun x => sameName x.rope s
theorem named_snoc (l : List LogD) (x : LogD) (s : ByteArray) : named (l ++ [x]) s = (named l s || sameName x.rope s) := by simp [named]
theorem gone_unnamed (s : ByteArray) : ∀ l : List LogD, named l s = false → gone l s = false := by
  have key : ∀ (l : List LogD) (b : Bool), named l s = false → l.foldl (goneStep s) b = b := by
    intro l
    induction l with
    | nil => intro b _; rfl
    | cons x l ih =>
      intro b h
      simp only [named, List.any_cons, Bool.or_eq_false_iff] at h
      rw [List.foldl_cons, goneStep, h.1]
      exact ih b h.2
  exact fun l h => key l false h
/-- block b is a map of the entries' names, each with whether its last entry retires it -/
def GoneMap (w : World) (b : Nat) (l : List LogD) : Prop :=
  ∃ D : DataW Unit, w.ownsMap Tryd.prog 9 (plainElem Tryd.prog 4) b l.length D ∧ ∀ (s : ByteArray) z, D.atKey (.string s.data.toList) z = if named l s then .lit (.bool (gone l s)) else z
theorem GoneMap.lt {w : World} {b : Nat} {l : List LogD} (h : GoneMap w b l) : b < w.heap.size := by obtain ⟨D, h1, _⟩ := h; exact h1.lt
theorem GoneMap.kept {w w' : World} {b : Nat} {l : List LogD} (h : GoneMap w b l) (hb : w'.heap[b]? = w.heap[b]?) : GoneMap w' b l := by
  obtain ⟨D, ⟨es, clock, h1, h2⟩, h3⟩ := h
  exact ⟨D, ⟨es, clock, hb.trans h1, h2⟩, h3⟩
theorem GoneMap.below {w w' : World} {b : Nat} {l : List LogD} (h : GoneMap w b l) (hb : Below w.heap.size w w') : GoneMap w' b l := h.kept (hb.block b h.lt)
set_option maxRecDepth 100000 in
theorem GoneMap.made (w : World) : GoneMap (w.alloc (.map #[] 0)) w.heap.size [] := ⟨.map [], World.ownsMap_made _ _ _ _, fun _ _ => rfl⟩
set_option maxRecDepth 100000 in
theorem bool_elem {v : Value} {b : Bool} {ps : List MemPlace} (h : plainElem (H := Unit) Tryd.prog 4 v = some (.lit (.bool b), ps)) : v = .bool b := by
  unfold plainElem at h
  rw [Tryd.underlying4] at h
  cases v <;> simp at h
  rw [h.1]
theorem GoneMap.lookup {w : World} {b : Nat} {l : List LogD} (h : GoneMap w b l) (s : ByteArray) (hs : s.size ≤ maxLen) : (Instr.lookup 69 (.map (some b)) (.string s) false).run Tryd.prog w = .ok (.bool (gone l s)) w := by
  obtain ⟨D, h1, h2⟩ := h
  obtain ⟨v, ps, hrun, hv⟩ := h1.lookup keyStr Tryd.underlying69 (show (zeroValue 4).run Tryd.prog w = .ok (.bool false) w by kernel_rfl) (plainElem_bool Tryd.underlying4 false) (WideMaps.keyOf_string_mk Tryd.underlying9 hs)
  rw [h2] at hv
  have e : v = .bool (gone l s) := by
    cases hm : named l s
    · rw [gone_unnamed s l hm]
      rw [hm, if_neg (by simp)] at hv; exact bool_elem hv
    · rw [hm, if_pos rfl] at hv; exact bool_elem hv
  rw [hrun, e]
theorem GoneMap.put {w' : World} {b : Nat} {l : List LogD} {x : LogD} {D : DataW Unit} (h3 : ∀ (s : ByteArray) z, D.atKey (.string s.data.toList) z = if named l s then .lit (.bool (gone l s)) else z) (hD : IsMap D) (h1 : w'.ownsMap Tryd.prog 9 (plainElem Tryd.prog 4) b (l.length + 1) (D.put (.string x.rope.data.toList) (.lit (.bool (decide (x.kind = 4)))))) : GoneMap w' b (l ++ [x]) := by
  refine ⟨_, by rw [List.length_append]; exact h1, fun t z => ?_⟩
  rw [named_snoc, gone_snoc, goneStep]
  by_cases e : t = x.rope
  · subst e
    rw [atKey_put_same hD (by trivial), sameName_refl, Bool.or_true]
    rfl
  · have hn := sameName_false.2 (fun h : x.rope = t => e h.symm)
    rw [atKey_put_other (fun h => e (by
      injection h with h
      exact bs_inj (by rw [bs_data, bs_data, h]))), h3, hn, Bool.or_false]
    rfl
/-- m[x.rope] = whether x retires it, at the operation -/
theorem wpList_gone {w : World} {ops : Array Oper} {rest : List Oper} {o : Oper} {a : Act} {Q : Exit → Act → World → Prop} {b : Nat} {l : List LogD} (h : GoneMap w b l) (y : LogD) (hs : y.rope.size ≤ maxLen) (hn : l.length < maxLen)
    (hg : o.guard = none) (m x v : Operand) (hop : o.op = Op.mapUpdate 69 m x v) (hm : a.eval m = .map (some b)) (hx : a.eval x = .string y.rope) (hv : a.eval v = .bool (decide (y.kind = 4)))
    (hK : ∀ w', GoneMap w' b (l ++ [y]) → w.grownBy w' (some b) → wpList Tryd.prog ops Q rest (a.put o.dst undef) w') : wpList Tryd.prog ops Q (o :: rest) a w := by
  obtain ⟨D, h1, h2⟩ := h
  exact wpList_mapUpdate_own w hg m x v 69 hop 9 4 keyStr Tryd.underlying69 (plainElem Tryd.prog 4) b l.length D hm h1 hn (.string y.rope) (.bool (decide (y.kind = 4))) (.string y.rope.data.toList) hx hv (WideMaps.keyOf_string_mk Tryd.underlying9 hs) (.lit (.bool (decide (y.kind = 4)))) [] (plainElem_bool Tryd.underlying4 _) fun w' h' hg' => hK w' (GoneMap.put h2 h1.isMap h') hg'
theorem Below.byMap {w w' : World} {b B : Nat} (h : w.grownBy w' (some b)) (hb : B ≤ b) (hB : B ≤ w.heap.size) : Below B w w' :=
  ⟨h.os, h.tape, h.output, h.size, fun k hk => h.block k (by omega) (by simp; omega)⟩
end Go.Proofs.YtemlaliackblkaaDoor
