/- Logs and rows of bytes in memory: rows that came in, parts of them, rows that the call makes. -/
import Derived.Test.YtemlaliackblkaaDoorLedLaw
import Derived.Test.YtemlaliackblkaaDoorOwn
import Derived.Maps.AppendAt
import Derived.Lib.AppendStr
import Derived.Lib.SlBytesRow
import Derived.Lib.SmallJoins
namespace Go.Proofs.YtemlaliackblkaaDoor
open Go.RowKit

def byteCells (c : UInt8) : List Value := [.int .u8 (c.toNat : Int)]
theorem byteCells_len (c : UInt8) : (byteCells c).length = 1 := rfl
theorem logCells_len (x : LogD) : x.cells.length = 4 := rfl
section
variable {W : World} {B b off : Nat} {t : TypeId}
theorem LogD.boxed {x : LogD} (hW : W.heap[b]? = some (.cells #[.int .i64 x.day, .string x.rope, .int .i64 x.kind, .int .i64 x.runs] t (0, 0))) (hb : b < B) (y : After B W) :
    y.val.cell? ⟨b, 0, none⟩ = some (.int .i64 x.day) ∧ y.val.cell? ⟨b, 1, none⟩ = some (.string x.rope) ∧ y.val.cell? ⟨b, 2, none⟩ = some (.int .i64 x.kind) ∧ y.val.cell? ⟨b, 3, none⟩ = some (.int .i64 x.runs) :=
  ⟨y.cells hW hb 0 _ rfl, y.cells hW hb 1 _ rfl, y.cells hW hb 2 _ rfl, y.cells hW hb 3 _ rfl⟩
theorem LogD.elem {l : List LogD} {k : Nat} {s : LogD} (hs : l[k]? = some s) (hb : b < B) (hc : ∀ i x, l[i]? = some x → ∀ j u, (x.cells)[j]? = some u → W.cell? ⟨b, off + (i * 4 + j), none⟩ = some u) (x : After B W) :
    x.val.cell? ⟨b, off + k * 4, none⟩ = some (.int .i64 s.day) ∧ x.val.cell? ⟨b, off + k * 4 + 1, none⟩ = some (.string s.rope) ∧ x.val.cell? ⟨b, off + k * 4 + 2, none⟩ = some (.int .i64 s.kind) ∧ x.val.cell? ⟨b, off + k * 4 + 3, none⟩ = some (.int .i64 s.runs) := by
  have h : ∀ j u, s.cells[j]? = some u → x.val.cell? ⟨b, off + k * 4 + j, none⟩ = some u := fun j u hu => by rw [Nat.add_assoc]; exact x.cell (hc k s hs j u hu) hb
  exact ⟨h 0 _ rfl, h 1 _ rfl, h 2 _ rfl, h 3 _ rfl⟩
theorem byteElem {l : List UInt8} {k : Nat} {c : UInt8} (hs : l[k]? = some c) (hb : b < B) (hc : ∀ i x, l[i]? = some x → ∀ j u, (byteCells x)[j]? = some u → W.cell? ⟨b, off + (i * 1 + j), none⟩ = some u) (x : After B W) :
    x.val.cell? ⟨b, off + k, none⟩ = some (.int .u8 (c.toNat : Int)) := by
  have h := hc k c hs 0 _ rfl
  exact x.cell (by simpa using h) hb
end

/-! ### parts of a slice -/
section
variable {α : Type} {w : World} {B size g off cap : Nat} {cells : α → List Value} {l : List α}
theorem SlAt.drop (h : SlAt w B size cells ⟨some ⟨g, off, none⟩, cap, l⟩) (k : Nat) (hk : k ≤ l.length) : SlAt w B size cells ⟨some ⟨g, off + k * size, none⟩, cap - k, l.drop k⟩ := by
  obtain ⟨h1, h2, h3⟩ := h
  simp only at h1 h2 h3
  refine ⟨by simp only [List.length_drop]; omega, by simp only; omega, fun hn => ?_⟩
  simp only [List.length_drop] at hn
  obtain ⟨b, o, e, hb, hc⟩ := h3 (by omega)
  injection e with e
  injection e with e1 e2
  subst e1 e2
  refine ⟨g, off + k * size, rfl, hb, fun i x hx j u hu => ?_⟩
  simp only [List.getElem?_drop] at hx
  have := hc (k + i) x hx j u hu
  rwa [Nat.add_mul, Nat.add_assoc, ← Nat.add_assoc] at this
theorem SlAt.take {A : Option Addr} (h : SlAt w B size cells ⟨A, cap, l⟩) (k : Nat) : SlAt w B size cells ⟨A, cap, l.take k⟩ := by
  obtain ⟨h1, h2, h3⟩ := h
  simp only at h1 h2 h3
  refine ⟨by simp only [List.length_take]; omega, h2, fun hn => ?_⟩
  simp only [List.length_take] at hn
  obtain ⟨b, o, e, hb, hc⟩ := h3 (by omega)
  refine ⟨b, o, e, hb, fun i x hx j u hu => ?_⟩
  simp only at hx
  have hi : i < k := by have := (List.getElem?_eq_some_iff.1 hx).1; rw [List.length_take] at this; omega
  rw [List.getElem?_take_of_lt hi] at hx
  exact hc i x hx j u hu
end
section
variable {P : Program}
theorem slice_from (W : World) (t e : TypeId) (size : Nat) (ht : P.underlying t = some (.slice e)) (hz : ∀ w, (Go.sizeOf e).run P w = .ok size w) (b o len cap l : Nat) (hl : l ≤ len) (hc : l < cap) :
    (Instr.slice t (.slice (some ⟨b, o, none⟩) len cap) (some (.int .i64 (l : Int))) none none).run P W = .ok (.slice (some ⟨b, o + l * size, none⟩) (len - l) (cap - l)) W := by
  have ht' : P.underlying t = some (.slice (P.elem t)) := by simp [Program.elem, ht]
  have he : P.elem t = e := by simp [Program.elem, ht]
  rw [run_slice_l W t _ _ _ ht' .i64 _ (by omega) (by omega), he, hz]
  have hne : ¬ cap = l := by omega
  by_cases h0 : l * size = 0
  · simp [Result.andThen, sliced, Addr.add, hne, h0]
  · simp [Result.andThen, sliced, Addr.add, hne, h0]
theorem slice_to (W : World) (t e : TypeId) (size : Nat) (ht : P.underlying t = some (.slice e)) (hz : ∀ w, (Go.sizeOf e).run P w = .ok size w) (A : Option Addr) (len cap h : Nat) (hh : h ≤ cap) :
    (Instr.slice t (.slice A len cap) none (some (.int .i64 (h : Int))) none).run P W = .ok (.slice A h cap) W := by
  have ht' : P.underlying t = some (.slice (P.elem t)) := by simp [Program.elem, ht]
  have he : P.elem t = e := by simp [Program.elem, ht]
  rw [run_slice_h W t _ _ _ ht' .i64 _ (by omega) (by omega), he, hz]
  cases A <;> simp [Result.andThen, sliced, Addr.add]
end

/-! ### flat rows -/
theorem flat_split {α : Type} {cells : α → List Value} {size : Nat} (hs : ∀ x, (cells x).length = size) : ∀ (l : List α) (q : Nat) (u : Value), (l.flatMap cells)[q]? = some u → ∃ i j x, q = i * size + j ∧ l[i]? = some x ∧ (cells x)[j]? = some u
  | [], q, u, h => by simp at h
  | y :: l, q, u, h => by
    rw [List.flatMap_cons] at h
    by_cases hq : q < size
    · rw [List.getElem?_append_left (by rw [hs]; exact hq)] at h
      exact ⟨0, q, y, by simp, rfl, h⟩
    · rw [List.getElem?_append_right (by rw [hs]; omega), hs] at h
      obtain ⟨i, j, x, e, h1, h2⟩ := flat_split hs l (q - size) u h
      exact ⟨i + 1, j, x, by rw [Nat.succ_mul]; omega, by simpa using h1, h2⟩
theorem flat_len {α : Type} {cells : α → List Value} {size : Nat} (hs : ∀ x, (cells x).length = size) : ∀ l : List α, (l.flatMap cells).length = l.length * size
  | [] => by simp
  | y :: l => by rw [List.flatMap_cons, List.length_append, hs, flat_len hs l, List.length_cons, Nat.succ_mul]; omega
theorem flat_at {α : Type} {cells : α → List Value} {size : Nat} (hs : ∀ x, (cells x).length = size) : ∀ (l : List α) (i : Nat) (x : α) (j : Nat) (u : Value), l[i]? = some x → (cells x)[j]? = some u → (l.flatMap cells)[i * size + j]? = some u
  | [], i, x, j, u, h, _ => by simp at h
  | y :: l, 0, x, j, u, h, hu => by
    simp at h
    subst h
    have hj : j < (cells y).length := (List.getElem?_eq_some_iff.1 hu).1
    rw [List.flatMap_cons, Nat.zero_mul, Nat.zero_add, List.getElem?_append_left hj]
    exact hu
  | y :: l, i + 1, x, j, u, h, hu => by
    have h' : l[i]? = some x := by simpa using h
    rw [List.flatMap_cons, List.getElem?_append_right (by rw [hs y, Nat.succ_mul]; omega), hs y, show (i + 1) * size + j - size = i * size + j by rw [Nat.succ_mul]; omega]
    exact flat_at hs l i x j u h' hu
/-- the elements of a slice, as news for an append -/
theorem slAt_news {α : Type} {w : World} {size : Nat} {cells : α → List Value} (hs : ∀ x, (cells x).length = size) {b off : Nat} {l : List α} (hc : ∀ i x, l[i]? = some x → ∀ j u, (cells x)[j]? = some u → w.cell? ⟨b, off + (i * size + j), none⟩ = some u) : ∀ q u, (l.flatMap cells)[q]? = some u → w.cell? ((⟨b, off, none⟩ : Addr).add q) = some u := fun q u hq => by
  obtain ⟨i, j, x, e, h1, h2⟩ := flat_split hs l q u hq
  have h3 := hc i x h1 j u h2
  have e2 : (⟨b, off, none⟩ : Addr).add q = ⟨b, off + (i * size + j), none⟩ := by
    unfold Addr.add
    by_cases hz : q = 0
    · rw [if_pos hz, ← e, hz]; rfl
    · rw [if_neg hz, ← e]
  rw [e2]; exact h3
/-- an own row of elements that is being made -/
structure OwnSt {α : Type} (t : TypeId) (size : Nat) (cells : α → List Value) (W : World) (v : Value) (l : List α) (x : World) : Prop where
  own : x.ownsRow W.heap.size t size v l.length (l.flatMap cells)
  bel : Below W.heap.size W x
section
variable {α : Type} {t : TypeId} {size : Nat} {cells : α → List Value} {W x y z u : World} {v v' : Value} {l ls : List α}
theorem OwnSt.start (t : TypeId) (size : Nat) (cells : α → List Value) (hb : Below W.heap.size W x) : OwnSt t size cells W (.slice none 0 0) [] x := ⟨own_nil _ _ _ _, hb⟩
theorem OwnSt.more (h : OwnSt t size cells W v l x) (hb : Below x.heap.size x y) : OwnSt t size cells W v l y := ⟨own_below h.own hb, h.bel.trans (hb.mono h.bel.size)⟩
theorem OwnSt.append (h : OwnSt t size cells W v l z) (hu : Below z.heap.size z u) (hown : y.ownsRow W.heap.size t size v' (l.length + ls.length) (l.flatMap cells ++ ls.flatMap cells)) (hgr : u.grownBy y v.ownBlock) : OwnSt t size cells W v' (l ++ ls) y := by
  refine ⟨by rw [List.length_append, List.flatMap_append]; exact hown, h.bel.trans ?_⟩
  exact Below.grown (hu.mono h.bel.size) hgr (Nat.le_trans h.bel.size hu.size) (own_owner h.own)
theorem OwnSt.slAt (hs : ∀ x, (cells x).length = size) (h : OwnSt t size cells W v l x) : ∃ A cap, v = .slice A l.length cap ∧ SlAt x x.heap.size size cells ⟨A, cap, l⟩ := by
  rcases h.own.2 with ⟨hv, h0⟩ | ⟨g, cap, cur, hv, hg, hh, hnc, hcm, hcs, htake⟩
  · have hl : l = [] := List.eq_nil_of_length_eq_zero h0
    subst hl
    exact ⟨none, 0, hv, by simp, by simp, fun hn => absurd hn (by simp)⟩
  · refine ⟨_, cap, hv, hnc, hcm, fun _ => ⟨g, 0, rfl, (Array.getElem?_eq_some_iff.1 hh).1, fun i x hx j u hu => ?_⟩⟩
    have h1 := flat_at hs l i x j u hx hu
    rw [← htake] at h1
    have hi := (List.getElem?_eq_some_iff.1 hx).1
    have hj := (List.getElem?_eq_some_iff.1 hu).1
    rw [hs] at hj
    have hlt : i * size + j < l.length * size := by
      have : (i + 1) * size ≤ l.length * size := Nat.mul_le_mul_right size hi
      rw [Nat.succ_mul] at this; omega
    rw [List.getElem?_take_of_lt hlt] at h1
    rw [Lib.cell_of_heap hh, Nat.zero_add]
    simpa using h1
end
end Go.Proofs.YtemlaliackblkaaDoor
