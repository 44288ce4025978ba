/- Small words that all walks of this family share: worlds that are as another below a block, regions that draw their order and whose operations give one value in all such worlds, slices as addresses with their contents. -/
import Derived.Handy
import Derived.WalkSpells
import Derived.WalkLawsBesides
import Derived.Deep.QuietTactic
import Derived.BigQuiet
namespace Go.Proofs.YtcdkhlndohokcaaGreatDoor
open Go.RowKit

theorem hide {p : Prop} (h : p) : Hid p := h

/-! ### worlds -/

/-- A world that is as w was below block B. -/
structure After (B : Nat) (w : World) where
  val : World
  below : Below B w val
def After.refl (B : Nat) (w : World) : After B w := ⟨w, Below.refl B w⟩
instance {B : Nat} {w : World} : Nonempty (After B w) := ⟨After.refl B w⟩
theorem After.exists_iff {B : Nat} {w w' : World} (h : Below B w w') : ∃ x : After B w, w' = x.val := ⟨⟨w', h⟩, rfl⟩
theorem After.cell {B : Nat} {w : World} {p : Addr} {v : Value} (h : w.cell? p = some v) (hp : p.block < B) (x : After B w) : x.val.cell? p = some v := (x.below.cell hp).trans h
theorem After.size {B : Nat} {w : World} (x : After B w) : w.heap.size ≤ x.val.heap.size := x.below.size

/-- A region that draws its order, walked once in the order of the text: every operation gives one value in every world that is as w was below B. -/
theorem wp_region_class {P : Program} {id : Nat} {Q : Exit → Act → World → Prop} {a : Act} {B : Nat} {w W : World} {l : List Oper} (hW : Below B w W) (hm : P.follows .mixedOrders = true) (hB : Region.lexB .any l.toArray = true)
    (h : wpQuiet P l.toArray (fun w' => ∃ x : After B w, w' = x.val) (fun a' => ∀ x : After B w, Q .normal a' x.val) l a) : (Code.region id l.toArray true).wp P Q a W :=
  wp_region_quiet (C := fun w' => ∃ x : After B w, w' = x.val) hm hB (After.exists_iff (hW.trans ⟨rfl, rfl, rfl, Nat.le_refl _, fun _ _ => rfl⟩))
    (by
      have e : (fun a' => ∀ w', (∃ x : After B w, w' = x.val) → Q .normal a' w') = (fun a' => ∀ x : After B w, Q .normal a' x.val) := by
        funext a'
        exact propext ⟨fun h x => h _ ⟨x, rfl⟩, fun h w' ⟨x, hx⟩ => hx ▸ h x⟩
      rw [e]
      simpa using h)
theorem wp_region_first {P : Program} {id : Nat} {Q : Exit → Act → World → Prop} {a : Act} (B : Nat) {w : World} {l : List Oper} (hm : P.follows .mixedOrders = true) (hB : Region.lexB .any l.toArray = true)
    (h : wpQuiet P l.toArray (fun w' => ∃ x : After B w, w' = x.val) (fun a' => ∀ x : After B w, Q .normal a' x.val) l a) : (Code.region id l.toArray true).wp P Q a w :=
  wp_region_class (Below.refl _ _) hm hB h
theorem wp_region_after {P : Program} {id : Nat} {Q : Exit → Act → World → Prop} {a : Act} {B : Nat} {w : World} (x : After B w) {l : List Oper} (hm : P.follows .mixedOrders = true) (hB : Region.lexB .any l.toArray = true)
    (h : wpQuiet P l.toArray (fun w' => ∃ x : After B w, w' = x.val) (fun a' => ∀ x : After B w, Q .normal a' x.val) l a) : (Code.region id l.toArray true).wp P Q a x.val :=
  wp_region_class x.below hm hB h

/-- The call returns v, and leaves a world that is as w was. -/
def Gives (w : World) (v : Value) (e : Ending) (w' : World) : Prop := e = .returned v ∧ Below w.heap.size w w'
theorem Gives.mk {w w' : World} {v v' : Value} (hv : v' = v) (h : Below w.heap.size w w') : Gives w v (.returned v') w' := ⟨by rw [hv], h⟩

/-- A call in a region of the class 'After B w'. -/
theorem Gives.after {P : Program} {f : FuncId} {args : Array Value} {B : Nat} {w : World} {v : Value} (hB : B ≤ w.heap.size) {x : After B w} (h : Calls P f args x.val (Gives x.val v)) :
    Calls P f args x.val fun e w'' => e = .returned v ∧ ∃ y : After B w, w'' = y.val :=
  h.mono fun _ _ ⟨he, hb⟩ => ⟨he, After.exists_iff (x.below.trans (hb.mono (Nat.le_trans hB x.below.size)))⟩

/-- The same at the first call: the class begins here. -/
theorem Gives.first {P : Program} {f : FuncId} {args : Array Value} {w : World} {v : Value} (h : Calls P f args w (Gives w v)) :
    Calls P f args w fun e w'' => e = .returned v ∧ ∃ y : After w.heap.size w, w'' = y.val :=
  h.mono fun _ _ ⟨he, hb⟩ => ⟨he, After.exists_iff hb⟩

/-- A cell of a block that is known whole, in all worlds that come behind. -/
theorem After.cells {W : World} {B b : Nat} {cs : Array Value} {t : TypeId} (h : W.heap[b]? = some (.cells cs t (0, 0))) (hb : b < B) (x : After B W) (j : Nat) (v : Value) (hj : cs[j]? = some v) : x.val.cell? ⟨b, j, none⟩ = some v := by
  refine (x.below.cell hb).trans ?_
  simp [World.cell?, h, hj]

/-- A parameter that was laid into a block of its own: the world behind it, under a name. -/
theorem boxed (w : World) (o : Obj) : ∃ W : World, W = w.alloc o ∧ W.heap.size = w.heap.size + 1 ∧ Below w.heap.size w W ∧ W.heap[w.heap.size]? = some o :=
  ⟨_, rfl, by simp, (Below.refl _ _).alloc (Nat.le_refl _) _, heap_alloc_new w _⟩

/-- A function of the program, called by its value. -/
theorem entersOf {P : Program} {f : FuncId} {fn : Func} {c : Code} (hf : P.funcs[f]? = some fn) (hname : (fn.name == "runtime.NumGoroutine") = false) (hb : fn.body = some c) : ∀ args w, (callFunc f args).run P w = .ok (.enter f args) w := by
  intro args w
  have h1 : fn.name ≠ "runtime.NumGoroutine" := by simpa using hname
  simp [callFunc, hf, h1, hb, mark]

/-! ### slices -/

/-- A slice: where it begins, its capacity, what it holds. -/
structure Sl (α : Type) where
  A : Option Addr
  cap : Nat
  l : List α
def Sl.val {α : Type} (s : Sl α) : Value := .slice s.A s.l.length s.cap
def Sl.len {α : Type} (s : Sl α) : Nat := s.l.length

/-- The slice's elements lie in w below block B: element i's cells, 'size' of them, from its place on. -/
def SlAt {α : Type} (w : World) (B size : Nat) (cells : α → List Value) (s : Sl α) : Prop :=
  s.l.length ≤ s.cap ∧ s.cap ≤ maxLen ∧ (0 < s.l.length → ∃ b off, s.A = some ⟨b, off, none⟩ ∧ b < B ∧ ∀ i x, s.l[i]? = some x → ∀ j u, (cells x)[j]? = some u → w.cell? ⟨b, off + (i * size + j), none⟩ = some u)

section
variable {α : Type} {w w' : World} {B B' size : Nat} {cells : α → List Value} {s : Sl α}
theorem SlAt.keep (h : SlAt w B size cells s) (hk : ∀ p : Addr, p.block < B → w'.cell? p = w.cell? p) : SlAt w' B size cells s :=
  ⟨h.1, h.2.1, fun hn => by
    obtain ⟨b, off, hA, hb, hc⟩ := h.2.2 hn
    exact ⟨b, off, hA, hb, fun i x hx j u hu => (hk ⟨b, off + (i * size + j), none⟩ hb).trans (hc i x hx j u hu)⟩⟩
theorem SlAt.below (h : SlAt w B size cells s) (hb : Below B w w') : SlAt w' B size cells s := h.keep fun _ hp => hb.cell hp
theorem SlAt.more (h : SlAt w B size cells s) (hB : B ≤ B') : SlAt w B' size cells s :=
  ⟨h.1, h.2.1, fun hn => by
    obtain ⟨b, off, hA, hb, hc⟩ := h.2.2 hn
    exact ⟨b, off, hA, by omega, hc⟩⟩
theorem SlAt.to (h : SlAt w B size cells s) (hb : Below B w w') (hB : B ≤ B') : SlAt w' B' size cells s := (h.below hb).more hB
end

/-! ### all elements of a list, with their places -/
def allIdxFrom {α : Type} (p : Nat → α → Bool) : Nat → List α → Bool
  | _, [] => true
  | i, x :: l => p i x && allIdxFrom p (i + 1) l
def allIdx {α : Type} (p : Nat → α → Bool) (l : List α) : Bool := allIdxFrom p 0 l
theorem allIdxFrom_iff {α : Type} {p : Nat → α → Bool} : ∀ (l : List α) (i : Nat), allIdxFrom p i l = true ↔ ∀ j y, l[j]? = some y → p (i + j) y = true
  | [], _ => by simp [allIdxFrom]
  | x :: l, i => by
    rw [allIdxFrom, Bool.and_eq_true, allIdxFrom_iff l (i + 1)]
    constructor
    · rintro ⟨h1, h2⟩ j y hy
      cases j with
      | zero => simp at hy; subst hy; exact h1
      | succ j => rw [← Nat.add_assoc, Nat.add_right_comm]; exact h2 j y (by simpa using hy)
    · intro h
      refine ⟨by simpa using h 0 x rfl, fun j y hy => ?_⟩
      have := h (j + 1) y (by simpa using hy)
      rwa [← Nat.add_assoc, Nat.add_right_comm] at this
theorem allIdx_iff {α : Type} {p : Nat → α → Bool} {l : List α} : allIdx p l = true ↔ ∀ j y, l[j]? = some y → p j y = true := by
  have := allIdxFrom_iff (p := p) l 0
  simpa [allIdx] using this
theorem allIdx_yes {α : Type} {p : Nat → α → Bool} {l : List α} (h : ∀ j y, j < l.length → l[j]? = some y → p j y = true) : allIdx p l = true :=
  allIdx_iff.2 fun j y hy => h j y (List.getElem?_eq_some_iff.1 hy).1 hy
theorem allIdx_no {α : Type} {p : Nat → α → Bool} {l : List α} {k : Nat} {y : α} (hy : l[k]? = some y) (h : p k y = false) : allIdx p l = false := by
  cases ha : allIdx p l with
  | false => rfl
  | true => rw [allIdx_iff.1 ha k y hy] at h; cases h
/-- what holds of the first k elements -/
def UpTo {α : Type} (p : Nat → α → Bool) (l : List α) (k : Nat) : Prop := ∀ j y, j < k → l[j]? = some y → p j y = true
theorem UpTo.zero {α : Type} (p : Nat → α → Bool) (l : List α) : UpTo p l 0 := fun j y hj => absurd hj (by omega)
theorem UpTo.next {α : Type} {p : Nat → α → Bool} {l : List α} {k : Nat} {z : α} (h : UpTo p l k) (hz : l[k]? = some z) (hp : p k z = true) : UpTo p l (k + 1) := fun j y hj hy => by
  by_cases e : j = k
  · subst e; rw [hz] at hy; injection hy with hy; rw [← hy]; exact hp
  · exact h j y (by omega) hy
theorem UpTo.all {α : Type} {p : Nat → α → Bool} {l : List α} {k : Nat} (h : UpTo p l k) (hk : l.length ≤ k) : allIdx p l = true := allIdx_yes fun j y hj hy => h j y (by omega) hy
theorem UpTo.any_false {α : Type} {q : α → Bool} {l : List α} {k : Nat} (h : UpTo (fun _ x => !q x) l k) : (l.take k).any q = false := by
  rw [List.any_eq_false]
  intro x hx
  obtain ⟨j, hj, e⟩ := List.getElem_of_mem hx
  have h1 : j < k ∧ j < l.length := by rw [List.length_take] at hj; omega
  have := h j x h1.1 (by rw [← e, List.getElem_take, List.getElem?_eq_getElem])
  simpa using this
theorem any_take_true {α : Type} {q : α → Bool} {l : List α} {k j : Nat} {y : α} (hj : j < k) (hy : l[j]? = some y) (hq : q y = true) : (l.take k).any q = true := by
  rw [List.any_eq_true]
  exact ⟨y, List.mem_iff_getElem?.2 ⟨j, by rw [List.getElem?_take_of_lt hj]; exact hy⟩, hq⟩

/-! ### strings -/
def bs (s : ByteArray) : List UInt8 := s.toList
theorem bs_data (s : ByteArray) : bs s = s.data.toList := ByteArray.toList_eq s
theorem bs_length (s : ByteArray) : (bs s).length = s.size := by rw [bs_data, Array.length_toList]; rfl
theorem bs_get (s : ByteArray) (k : Nat) (h : k < s.size) : (bs s)[k]? = some s[k] := by
  rw [bs_data, Array.getElem?_toList, Array.getElem?_eq_getElem h]; rfl
theorem toList_nil {s : ByteArray} (h : s.size = 0) : s.toList = [] := List.eq_nil_of_length_eq_zero (by rw [show s.toList = bs s from rfl, bs_length]; exact h)
theorem toList_ne {s : ByteArray} (h : 0 < s.size) : ¬ s.toList = [] := fun e => by
  have := bs_length s
  unfold bs at this
  rw [e] at this
  simp at this
  omega
theorem toList_isEmpty {s : ByteArray} (h : 0 < s.size) : s.toList.isEmpty = false := by
  have := toList_ne h
  cases hs : s.toList with
  | nil => exact absurd hs this
  | cons => rfl
theorem bs_inj {s t : ByteArray} (h : bs s = bs t) : s = t := by
  rw [bs_data, bs_data] at h
  cases s; cases t
  simp only at h
  rw [Array.toList_inj.1 h]

/-- an int of 64 bits -/
def I64 (n : Int) : Prop := -9223372036854775808 ≤ n ∧ n ≤ 9223372036854775807
end Go.Proofs.YtcdkhlndohokcaaGreatDoor
