/- append onto an own row at a step of a region that draws its order: a slice (nil or not), a string. -/
import Derived.Test.YtemlaliackblkaaDoorLedRefRec
import Derived.Deep.RegionHeld3
namespace Go.Proofs.YtemlaliackblkaaDoor
open Go.RowKit

theorem grown_refl (w : World) (b : Option Nat) : w.grownBy w b := ⟨rfl, rfl, rfl, Nat.le_refl _, fun _ _ _ => rfl⟩
section
variable {P : Program} {ops : Array Oper} {o : Oper} {a : Act} {K : Act → World → Prop} {Q : Exit → Act → World → Prop} {E : Prop} {α : Type} {cells : α → List Value} {size : Nat}
theorem step_sl (w : World) (hw : Region.wanted o (yielded ops a.tmps) = true) (s x : Operand) (t : TypeId) (ho : o.op = .call { callee := .builtin .append, args := #[s, x], argTypes := #[t, t] })
    (base : Nat) (e : TypeId) (i : TypeInfo) (z : Value) (bytes : Nat) (ht : P.underlying t = some (.slice e)) (hi : P.info? e = some i) (hz : i.zero = some z)
    (hsize : i.size = size) (hby : i.bytes = bytes) (hzs : z.cells.size = size) (hsz : 0 < size)
    (v : Value) (n : Nat) (xs : List Value) (hs : a.eval s = v) (hown : w.ownsRow base e size v n xs)
    (A : Option Addr) (cap : Nat) (l : List α) (hA : A = none → cap = 0) (hc : ∀ x, (cells x).length = size) (hsl : ∃ B, SlAt w B size cells ⟨A, cap, l⟩) (hx : a.eval x = .slice A l.length cap) (h1 : ∀ u ∈ l.flatMap cells, u.oneCell' = true)
    (h63 : n + l.length ≤ maxLen) (hbytes : (n + l.length) * bytes ≤ 140737488355328) (hbase : base ≤ w.heap.size)
    (h : ∀ v' w', w'.ownsRow base e size v' (n + l.length) (xs ++ l.flatMap cells) → w.grownBy w' v.ownBlock → K (a.put o.dst v') w') :
    if Region.wanted o (yielded ops a.tmps) = true then Oper.wp P o a w K Q else E := by
  rw [if_pos hw]
  obtain ⟨B, hsl⟩ := hsl
  cases A with
  | none =>
    have hl := slAt_nil hsl
    have hcz := hA rfl
    subst hl hcz
    have hrun := run_append_owned_none (P := P) (w := w) base t o.type e i size ht hi v n xs hown
    unfold Oper.wp
    simp [execOp, ho, resolve, invoke, builtin, hs, hx, hrun, Result.andThen]
    exact h v w (by simpa using hown) (grown_refl _ _)
  | some ad => exact wp_append_own w s x t ho base e i z size bytes ht hi hz hsize hby hzs hsz v n xs hs hown ad l.length cap (l.flatMap cells) hx (by rw [flat_len hc]) (slAt_flat hc hsl) h1 h63 hbytes hbase fun v' w' h2 h3 _ => h v' w' h2 h3
theorem step_str (w : World) (hw : Region.wanted o (yielded ops a.tmps) = true) (s x : Operand) (t u : TypeId) (ho : o.op = .call { callee := .builtin .append, args := #[s, x], argTypes := #[t, u] })
    (base : Nat) (e : TypeId) (i : TypeInfo) (ht : P.underlying t = some (.slice e)) (hu : P.underlying u = some .string) (hi : P.info? e = some i) (hz : i.zero = some (.int .u8 0))
    (hsize : i.size = 1) (hby : i.bytes = 1)
    (v : Value) (n : Nat) (xs : List Value) (hs : a.eval s = v) (hown : w.ownsRow base e 1 v n xs) (S : ByteArray) (hx : a.eval x = .string S)
    (h63 : n + S.size ≤ maxLen) (hbytes : n + S.size ≤ 140737488355328) (hbase : base ≤ w.heap.size)
    (h : ∀ v' w', w'.ownsRow base e 1 v' (n + S.size) (xs ++ Lib.strCells S) → w.grownBy w' v.ownBlock → K (a.put o.dst v') w') :
    if Region.wanted o (yielded ops a.tmps) = true then Oper.wp P o a w K Q else E := by
  rw [if_pos hw]
  obtain ⟨v', w', hr, h2, h3, _⟩ := Lib.run_append_own_string (P := P) w base t u o.type e i ht hu hi hz hsize hby v n xs hown S h63 hbytes hbase
  unfold Oper.wp execOp
  simp only [ho, resolve, invoke, builtin, Sem.run_bind, Sem.run_pure, Result.andThen_ok, List.map_toArray, List.map_cons, List.map_nil, hs, hx, hr]
  exact h v' w' h2 h3
end
/-- a block that an append elsewhere leaves as it was -/
theorem grown_block {w w' : World} {g k : Nat} {v : Value} {o : Obj} (h : w.grownBy w' v.ownBlock) (hk : w.heap[k]? = some o) (hv : v.ownBlock = some g) (hne : k ≠ g) : w'.heap[k]? = some o := by
  refine (h.block k (Array.getElem?_eq_some_iff.1 hk).1 ?_).trans hk
  rw [hv]; intro e; injection e with e; exact hne e
end Go.Proofs.YtemlaliackblkaaDoor
