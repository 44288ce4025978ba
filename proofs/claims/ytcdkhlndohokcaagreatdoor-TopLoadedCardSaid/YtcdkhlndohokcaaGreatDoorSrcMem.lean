/- The reader of sources: its block, its tokens, and its small methods. The numbers of sources: Atoi, and the reader's method number. The reader's methods name, blank and numbers. The reader's method numbers: it fills cells of one block. What the reader of sources holds: its rows, and how one of them turns. -/
import Derived.Test.YtcdkhlndohokcaaGreatDoorDecTokens
import Derived.Test.YtcdkhlndohokcaaGreatDoorSrcToks
import Derived.Deep.DeepCutAuto
import Derived.Lib.AtoiAll
import Derived.Lib.SmallJoins
import Derived.Deep.AppendLies
namespace Go.Proofs.YtcdkhlndohokcaaGreatDoor
open Go.RowKit

theorem grown_put {w wr : World} {g i : Nat} {v : Value} (h : w.grownBy wr (some g)) : w.grownBy (wr.setCell ⟨g, i, none⟩ v) (some g) :=
  ⟨h.os, h.tape, h.output, by simp [World.setCell]; exact h.size, fun k hk hne => (Below.heap_setCell _ _ _ _ (fun e => hne (by simp only at e; rw [e]))).trans (h.block k hk hne)⟩
theorem grown_below {w wr y : World} {g : Option Nat} (h : w.grownBy wr g) (hb : Below wr.heap.size wr y) : w.grownBy y g :=
  ⟨hb.os.trans h.os, hb.tape.trans h.tape, hb.output.trans h.output, Nat.le_trans h.size hb.size, fun k hk hne => (hb.block k (Nat.lt_of_lt_of_le hk h.size)).trans (h.block k hk hne)⟩
theorem grown_trans {w x y : World} {g : Option Nat} (h : w.grownBy x g) (h2 : x.grownBy y g) : w.grownBy y g :=
  ⟨h2.os.trans h.os, h2.tape.trans h.tape, h2.output.trans h.output, Nat.le_trans h.size h2.size, fun k hk hne => (h2.block k (Nat.lt_of_lt_of_le hk h.size) hne).trans (h.block k hk hne)⟩
theorem grown_of_below {w y : World} {g : Option Nat} (hb : Below w.heap.size w y) : w.grownBy y g := grown_below (World.grownBy.refl w g) hb
section
variable {rb : Nat} {tv : Value} {L : List TokD} {n : Nat} {rest : List Value} {x y : World}
end
/-- all that a store of four cells, and the load behind it, ask of the block -/
theorem four_all {z : World} {g : Nat} {a b c d : Value} {t : TypeId} (h : z.heap[g]? = some (.cells #[a, b, c, d] t (0, 0))) (p q r s : Value) :
    (z.cell? ⟨g, 0, none⟩ = some a ∧ z.cell? ⟨g, 1, none⟩ = some b ∧ z.cell? ⟨g, 2, none⟩ = some c ∧ z.cell? ⟨g, 3, none⟩ = some d) ∧ (∀ i, z.frozen? ⟨g, i, none⟩ = false) ∧
    ((z.setCell ⟨g, 0, none⟩ p).cell? ⟨g, 1, none⟩ = some b ∧ ∀ i, (z.setCell ⟨g, 0, none⟩ p).frozen? ⟨g, i, none⟩ = false) ∧
    (((z.setCell ⟨g, 0, none⟩ p).setCell ⟨g, 1, none⟩ q).cell? ⟨g, 2, none⟩ = some c ∧ ∀ i, ((z.setCell ⟨g, 0, none⟩ p).setCell ⟨g, 1, none⟩ q).frozen? ⟨g, i, none⟩ = false) ∧
    ((((z.setCell ⟨g, 0, none⟩ p).setCell ⟨g, 1, none⟩ q).setCell ⟨g, 2, none⟩ r).cell? ⟨g, 3, none⟩ = some d ∧ ∀ i, (((z.setCell ⟨g, 0, none⟩ p).setCell ⟨g, 1, none⟩ q).setCell ⟨g, 2, none⟩ r).frozen? ⟨g, i, none⟩ = false) ∧
    (((((z.setCell ⟨g, 0, none⟩ p).setCell ⟨g, 1, none⟩ q).setCell ⟨g, 2, none⟩ r).setCell ⟨g, 3, none⟩ s).cell? ⟨g, 0, none⟩ = some p ∧ ((((z.setCell ⟨g, 0, none⟩ p).setCell ⟨g, 1, none⟩ q).setCell ⟨g, 2, none⟩ r).setCell ⟨g, 3, none⟩ s).cell? ⟨g, 1, none⟩ = some q ∧
     ((((z.setCell ⟨g, 0, none⟩ p).setCell ⟨g, 1, none⟩ q).setCell ⟨g, 2, none⟩ r).setCell ⟨g, 3, none⟩ s).cell? ⟨g, 2, none⟩ = some r ∧ ((((z.setCell ⟨g, 0, none⟩ p).setCell ⟨g, 1, none⟩ q).setCell ⟨g, 2, none⟩ r).setCell ⟨g, 3, none⟩ s).cell? ⟨g, 3, none⟩ = some s) := by
  have h1 := block_set h (i := 0) p
  have h2 := block_set h1 (i := 1) q
  have h3 := block_set h2 (i := 2) r
  have h4 := block_set h3 (i := 3) s
  exact ⟨⟨(Joins.cell_of_block h 0).trans rfl, (Joins.cell_of_block h 1).trans rfl, (Joins.cell_of_block h 2).trans rfl, (Joins.cell_of_block h 3).trans rfl⟩, fun i => block_unfrozen h i,
    ⟨(Joins.cell_of_block h1 1).trans rfl, fun i => block_unfrozen h1 i⟩, ⟨(Joins.cell_of_block h2 2).trans rfl, fun i => block_unfrozen h2 i⟩, ⟨(Joins.cell_of_block h3 3).trans rfl, fun i => block_unfrozen h3 i⟩,
    ⟨(Joins.cell_of_block h4 0).trans rfl, (Joins.cell_of_block h4 1).trans rfl, (Joins.cell_of_block h4 2).trans rfl, (Joins.cell_of_block h4 3).trans rfl⟩⟩
def TokD.val (t : TokD) : Value := .agg #[.int .i64 t.kind, .string t.text, .int .i64 t.line, .int .i64 t.col]
theorem drop_get {L r : List TokD} {n : Nat} {t : TokD} (h : L.drop n = t :: r) : L[n]? = some t ∧ L.drop (n + 1) = r := by
  have h1 : (L.drop n)[0]? = some t := by rw [h]; rfl
  rw [List.getElem?_drop] at h1
  refine ⟨by simpa using h1, ?_⟩
  have h2 : L.drop (n + 1) = (L.drop n).drop 1 := by rw [List.drop_drop]
  rw [h2, h]; rfl
/-- the texts that a token may have: all, or those of a list -/
def TextsOf (u : World) (v : Value) (ok : List UInt8 → Bool) : Prop :=
  (v = .slice none 0 0 ∧ ok = fun _ => true) ∨ ∃ (b off : Nat) (zs : List ByteArray) (c : Nat), v = .slice (some ⟨b, off, none⟩) zs.length c ∧ 0 < zs.length ∧ zs.length ≤ 1000 ∧ b < u.heap.size ∧ (∀ j, j < zs.length → u.cell? ⟨b, off + j, none⟩ = some (.string (zs.getD j ByteArray.empty))) ∧ ∀ x : ByteArray, ok (bs x) = Go.Lib.containsS zs x
end Go.Proofs.YtcdkhlndohokcaaGreatDoor
namespace Go.Proofs.YtcdkhlndohokcaaGreatDoor
open Go Go.Lib

theorem parse10_digits : ∀ (l : List UInt8) (acc : Nat), l.all isDig = true → valN acc l < 18446744073709551616 → parseUint10 acc l = .ok (valN acc l)
  | [], acc, _, _ => by rw [valN_nil]; rfl
  | c :: r, acc, hd, hb => by
    simp only [List.all_cons, Bool.and_eq_true] at hd
    have hc := dig_bounds hd.1
    rw [valN_cons] at hb ⊢
    have h2 := valN_ge r (10 * acc + (c.toNat - 48))
    have e : acc * 10 + (c.toNat - 48) = 10 * acc + (c.toNat - 48) := by omega
    rw [parseUint10, if_pos hc, if_neg (by omega), if_neg (by omega), e]
    exact parse10_digits r _ hd.2 hb
theorem parseMag_dec {u : Nat} (h : u < 18446744073709551616) : parseMag (decDigits u) = .ok u := by
  have hne : decDigits u ≠ [] := fun e => by
    have := nDigits_pos u
    rw [← decDigits_length, e] at this
    simp at this
  rw [parseMag, if_neg hne, parse10_digits _ 0 (decDigits_all u) (by rw [valN_dec]; exact h), valN_dec]
theorem atoiAll_itoa {n : Int} (h0 : -9223372036854775808 ≤ n) (h1 : n ≤ 9223372036854775807) : atoiAll (itoa n) = .ok n := by
  by_cases h : n < 0
  · rw [itoaNeg h, atoiAll]
    have e : parseMag (if (45 : UInt8).toNat = 43 ∨ (45 : UInt8).toNat = 45 then decDigits n.natAbs else 45 :: decDigits n.natAbs) = .ok n.natAbs := by
      rw [if_pos (Or.inr (by decide)), parseMag_dec (by omega)]
    simp only [e]
    rw [if_neg (by simp), if_neg (by omega)]
    simp
    omega
  · obtain ⟨m, rfl⟩ : ∃ m : Nat, n = m := ⟨n.toNat, by omega⟩
    rw [itoaNat]
    cases hd : decDigits m with
    | nil => have := nDigits_pos m; rw [← decDigits_length, hd] at this; simp at this
    | cons c r =>
      have hc : 48 ≤ c.toNat ∧ c.toNat ≤ 57 := by
        have hall := decDigits_all m
        rw [hd] at hall
        simp only [List.all_cons, Bool.and_eq_true] at hall
        exact dig_bounds hall.1
      have h3 : ¬ (c.toNat = 43 ∨ c.toNat = 45) := by omega
      have h4 : ¬ c.toNat = 45 := by omega
      have e : parseMag (if c.toNat = 43 ∨ c.toNat = 45 then r else c :: r) = .ok m := by rw [if_neg h3, ← hd, parseMag_dec (by omega)]
      rw [atoiAll]
      simp only [e]
      rw [if_neg (by omega), if_neg (by omega)]
      simp [h4]
end Go.Proofs.YtcdkhlndohokcaaGreatDoor
namespace Go.Proofs.YtcdkhlndohokcaaGreatDoor
open Go.RowKit

theorem itoa15 {n : Int} (h2 : (Lib.itoa n).length ≤ 15) : -1000000000000000 < n ∧ n < 1000000000000000 := by
  by_cases hneg : n < 0
  · rw [itoaNeg hneg, List.length_cons, Lib.decDigits_length] at h2
    have h3 := Lib.lt_pow_nDigits n.natAbs
    have h4 : 10 ^ Lib.nDigits n.natAbs ≤ 10 ^ 14 := Nat.pow_le_pow_right (by decide) (by omega)
    omega
  · obtain ⟨m, rfl⟩ : ∃ m : Nat, n = m := ⟨n.toNat, by omega⟩
    rw [itoaNat, Lib.decDigits_length] at h2
    have h3 := Lib.lt_pow_nDigits m
    have h4 : 10 ^ Lib.nDigits m ≤ 10 ^ 15 := Nat.pow_le_pow_right (by decide) h2
    omega
/-- what number asks of a token -/
theorem numTok_atoi {w : List UInt8} {v : Int} (h : Lib.atoiAll w = .ok v) : numTok w = if w.length ≤ 15 ∧ Lib.itoa v = w then some v else none := by
  by_cases hx : w.length ≤ 15 ∧ Lib.itoa v = w
  · rw [if_pos hx]; exact numTok_iff.2 ⟨hx.2, hx.1⟩
  · rw [if_neg hx]
    cases hn : numTok w with
    | none => rfl
    | some n =>
      obtain ⟨h1, h2⟩ := numTok_iff.1 hn
      have hb := itoa15 (n := n) (by rw [h1]; exact h2)
      have h5 := atoiAll_itoa (n := n) (by omega) (by omega)
      rw [h1, h] at h5
      injection h5 with h5
      subst h5
      exact absurd ⟨h2, h1⟩ hx
theorem numTok_none {w : List UInt8} (h : ∀ v, Lib.atoiAll w ≠ .ok v) : numTok w = none := by
  cases hn : numTok w with
  | none => rfl
  | some n =>
    obtain ⟨h1, h2⟩ := numTok_iff.1 hn
    have hb := itoa15 (n := n) (by rw [h1]; exact h2)
    exact absurd (by rw [← h1]; exact atoiAll_itoa (by omega) (by omega)) (h n)
theorem Last5.head {L : List TokD} {n : Nat} (hl : Last5 (L.drop n)) : ∃ t r, L.drop n = t :: r ∧ L[n]? = some t ∧ L.drop (n + 1) = r ∧ n < L.length := by
  cases hd : L.drop n with
  | nil => exact absurd hd hl.ne
  | cons t r =>
    obtain ⟨h1, h2⟩ := drop_get hd
    exact ⟨t, r, rfl, h1, h2, (List.getElem?_eq_some_iff.1 h1).1⟩
end Go.Proofs.YtcdkhlndohokcaaGreatDoor
namespace Go.Proofs.YtcdkhlndohokcaaGreatDoor
open Go.RowKit

theorem lt_of_eq_of_lt2 {a b c : Nat} (h : a = b) (h2 : b < c) : a < c := h ▸ h2
/-- the number in a cell -/
def numAt (w : World) (p : Addr) : Nat := match w.cell? p with | some (.int _ n) => n.toNat | _ => 0
end Go.Proofs.YtcdkhlndohokcaaGreatDoor
namespace Go.Proofs.YtcdkhlndohokcaaGreatDoor
open Go.RowKit

/-- the reading of k numbers, of which some are there -/
def NumsTo (k : Nat) (ts : List TokD) (pre : List Int) (k' : Nat) (ts' : List TokD) : Prop := numsR k ts = bindR (numsR k' ts') fun l r => .ok (pre ++ l, r)
theorem NumsTo.refl (k : Nat) (ts : List TokD) : NumsTo k ts [] k ts := by
  unfold NumsTo
  cases numsR k ts with
  | error p => rfl
  | ok v => rfl
theorem NumsTo.step {k k' : Nat} {ts ts' r : List TokD} {pre : List Int} {v : Int} (h : NumsTo k ts pre (k' + 1) ts') (hv : numR ts' = .ok (v, r)) : NumsTo k ts (pre ++ [v]) k' r := by
  unfold NumsTo at *
  rw [h, nums_bind, hv]
  simp only [bindR]
  cases numsR k' r with
  | error p => rfl
  | ok v => simp
theorem NumsTo.err {k k' : Nat} {ts ts' : List TokD} {pre : List Int} {q : Int × Int} (h : NumsTo k ts pre (k' + 1) ts') (hv : numR ts' = .error q) : numsR k ts = .error q := by
  unfold NumsTo at h
  rw [h, nums_bind, hv]
  rfl
theorem NumsTo.done {k : Nat} {ts ts' : List TokD} {pre : List Int} (h : NumsTo k ts pre 0 ts') : numsR k ts = .ok (pre, ts') := by
  unfold NumsTo at h
  rw [h]
  simp [numsR, bindR]
/-- cells, some of which have turned to numbers -/
def putN : Array Value → List Nat → List Int → Array Value
  | c, o :: os, v :: vs => putN (c.setIfInBounds o (.int .i64 v)) os vs
  | c, _, _ => c
theorem putN_nil (c : Array Value) (os : List Nat) : putN c os [] = c := by cases os <;> rfl
theorem putN_size : ∀ (c : Array Value) (os : List Nat) (vs : List Int), (putN c os vs).size = c.size
  | c, [], vs => by cases vs <;> rfl
  | c, o :: os, [] => rfl
  | c, o :: os, v :: vs => by rw [putN, putN_size]; simp
theorem putN_snoc : ∀ (c : Array Value) (os : List Nat) (pre : List Int) (v : Int) {o : Nat}, os[pre.length]? = some o → putN c os (pre ++ [v]) = (putN c os pre).setIfInBounds o (.int .i64 v)
  | c, [], pre, v, o, h => by simp at h
  | c, o' :: os, [], v, o, h => by
    simp only [List.length_nil, List.getElem?_cons_zero, Option.some.injEq] at h
    subst h
    simp only [List.nil_append, putN, putN_nil]
  | c, o' :: os, p :: pre, v, o, h => by
    simp only [List.length_cons, List.getElem?_cons_succ] at h
    simp only [List.cons_append, putN]
    exact putN_snoc _ os pre v h
/-- of what was there, two blocks alone have turned -/
structure Grown2 (u w : World) (a b : Nat) : Prop where
  os : w.os = u.os
  tape : w.tape = u.tape
  output : w.output = u.output
  size : u.heap.size ≤ w.heap.size
  block : ∀ k, k < u.heap.size → k ≠ a → k ≠ b → w.heap[k]? = u.heap[k]?
theorem Grown2.refl (u : World) (a b : Nat) : Grown2 u u a b := ⟨rfl, rfl, rfl, Nat.le_refl _, fun _ _ _ _ => rfl⟩
theorem Grown2.more {u x y : World} {a b : Nat} (h : Grown2 u x a b) (hg : x.grownBy y (some a)) : Grown2 u y a b :=
  ⟨hg.os.trans h.os, hg.tape.trans h.tape, hg.output.trans h.output, Nat.le_trans h.size hg.size, fun k hk ha hb => (hg.block k (Nat.lt_of_lt_of_le hk h.size) (fun e => ha (by injection e))).trans (h.block k hk ha hb)⟩
theorem Grown2.put {u x : World} {a b : Nat} (h : Grown2 u x a b) (i : Nat) (v : Value) : Grown2 u (x.setCell ⟨b, i, none⟩ v) a b :=
  ⟨h.os, h.tape, h.output, by simp [World.setCell]; exact h.size, fun k hk ha hb => (Below.heap_setCell _ _ _ _ (fun e => hb (by simp only at e; rw [e]))).trans (h.block k hk ha hb)⟩
/-- the second block is new: one alone has turned -/
theorem Grown2.one {u x y : World} {a b : Nat} (h : Grown2 x y a b) (hu : u.grownBy x (some a)) (hb : u.heap.size ≤ b) : u.grownBy y (some a) :=
  ⟨h.os.trans hu.os, h.tape.trans hu.tape, h.output.trans hu.output, Nat.le_trans hu.size h.size, fun k hk hne => (h.block k (Nat.lt_of_lt_of_le hk hu.size) (fun e => hne (by rw [e])) (by omega)).trans (hu.block k hk hne)⟩
end Go.Proofs.YtcdkhlndohokcaaGreatDoor
namespace Go.Proofs.YtcdkhlndohokcaaGreatDoor
open Go.RowKit

structure CueD where
  name : ByteArray
  after : ByteArray
  link : Int
  delay : Int
  moves : Sl MoveD
  crew : Int
  power : Int
def MoveD.cells (m : MoveD) : List Value := [.string m.set, .int .i64 m.to, .int .i64 m.speed, .int .i64 m.rise, .int .i64 m.fall]
def CueD.cells (q : CueD) : List Value := [.string q.name, .string q.after, .int .i64 q.link, .int .i64 q.delay, q.moves.val, .int .i64 q.crew, .int .i64 q.power]
def pairCells (p : ByteArray × ByteArray) : List Value := [.string p.1, .string p.2]
def SetD.pl (s : SetD) : SetP := ⟨s.name, s.depth, s.low, s.high, s.length, s.lines.l, s.pipe, s.arbor, s.purchase, s.most, s.brake, s.items.l, s.bricks.l⟩
def CueD.pl (q : CueD) : CueP := ⟨q.name, q.after, q.link, q.delay, q.moves.l, q.crew, q.power⟩
/-- a row: its type, the size of an element, its slice, its length, its cells -/
structure Row where
  e : TypeId
  size : Nat
  v : Value
  n : Nat
  xs : List Value
def Row.lies (base : Nat) (w : World) (r : Row) : Prop := w.ownsRow base r.e r.size r.v r.n r.xs
def Sep (a b : Row) : Prop := ∀ k, a.v.ownBlock = some k → b.v.ownBlock ≠ some k
theorem Sep.symm {a b : Row} (h : Sep a b) : Sep b a := fun k h1 h2 => h k h2 h1
/-- rows, each in its own block -/
structure Rows (base : Nat) (w : World) (rs : List Row) : Prop where
  all : ∀ r ∈ rs, r.lies base w
  sep : rs.Pairwise Sep
theorem Row.lies.kept {base : Nat} {w w' : World} {r : Row} {row : Option Nat} (h : r.lies base w) (hg : w.grownBy w' row) (hne : r.v.ownBlock = none ∨ r.v.ownBlock ≠ row) : r.lies base w' := World.ownsRow.kept h hg hne
theorem Rows.kept {base : Nat} {w w' : World} {rs : List Row} {row : Option Nat} (h : Rows base w rs) (hg : w.grownBy w' row) (hr : ∀ k, row = some k → k < base) : Rows base w' rs := by
  refine ⟨fun r hm => (h.all r hm).kept hg ?_, h.sep⟩
  cases hv : r.v.ownBlock with
  | none => exact Or.inl rfl
  | some k => exact Or.inr fun e => by have h1 := hr k e.symm; have h2 := World.ownsRow.lt (h.all r hm) k hv; omega
theorem Rows.turn {base : Nat} {w w' : World} {A B : List Row} {r r' : Row} (h : Rows base w (A ++ r :: B)) (hr : r'.lies base w') (hg : w.grownBy w' r.v.ownBlock) (hb : ∀ k, r'.v.ownBlock = some k → r.v.ownBlock = some k ∨ w.heap.size ≤ k) : Rows base w' (A ++ r' :: B) := by
  have hp := List.pairwise_append.1 h.sep
  have hq := List.pairwise_cons.1 hp.2.1
  have keep : ∀ o : Row, o ∈ A ++ r :: B → Sep o r → o.lies base w' := fun o ho hs => (h.all o ho).kept hg (by
    cases hv : o.v.ownBlock with
    | none => exact Or.inl rfl
    | some k => exact Or.inr fun e => hs k hv e.symm)
  have sep : ∀ o : Row, o ∈ A ++ r :: B → Sep o r → Sep o r' := fun o ho hs k hk h' => by
    rcases hb k h' with h1 | h1
    · exact hs k hk h1
    · have h2 := World.ownsRow.lt (h.all o ho) k hk; omega
  refine ⟨fun o ho => ?_, List.pairwise_append.2 ⟨hp.1, List.pairwise_cons.2 ⟨fun o ho => (sep o (by simp [ho]) (hq.1 o ho).symm).symm, hq.2⟩, fun a ha b hb' => ?_⟩⟩
  · rcases List.mem_append.1 ho with h1 | h1
    · exact keep o (by simp [h1]) (hp.2.2 o h1 r (by simp))
    · rcases List.mem_cons.1 h1 with rfl | h2
      · exact hr
      · exact keep o (by simp [h2]) (hq.1 o h2).symm
  · rcases List.mem_cons.1 hb' with rfl | h2
    · exact sep a (by simp [ha]) (hp.2.2 a ha r (by simp))
    · exact hp.2.2 a ha b (by simp [h2])
theorem Rows.perm {base : Nat} {w : World} {rs ss : List Row} (h : Rows base w rs) (hp : rs.Perm ss) : Rows base w ss :=
  ⟨fun r hr => h.all r (hp.mem_iff.2 hr), hp.pairwise_iff (fun h => h.symm) |>.1 h.sep⟩
/-- empty rows are free -/
theorem Rows.nil_cons {base : Nat} {w : World} {rs : List Row} (h : Rows base w rs) (e : TypeId) (size : Nat) : Rows base w (⟨e, size, .slice none 0 0, 0, []⟩ :: rs) :=
  ⟨fun r hr => by rcases List.mem_cons.1 hr with rfl | h2; exact World.ownsRow_nil _ _ _ _; exact h.all r h2, List.pairwise_cons.2 ⟨fun _ _ k hk => by simp [Value.ownBlock] at hk, h.sep⟩⟩
def SetD.rows (s : SetD) : List Row := [⟨3, 1, s.lines.val, s.lines.l.length, s.lines.l.flatMap intCells⟩, ⟨63, 7, s.items.val, s.items.l.length, s.items.l.flatMap ItemD.cells⟩, ⟨65, 3, s.bricks.val, s.bricks.l.length, s.bricks.l.flatMap BrickD.cells⟩]
def CueD.rows (q : CueD) : List Row := [⟨99, 5, q.moves.val, q.moves.l.length, q.moves.l.flatMap MoveD.cells⟩]
/-- the reader's four rows and the rows in them -/
def memRows (S : Sl SetD) (R : Sl RoofD) (C : Sl CueD) (A : Sl (ByteArray × ByteArray)) : List Row :=
  ⟨26, 13, S.val, S.l.length, S.l.flatMap SetD.cells⟩ :: ⟨94, 4, R.val, R.l.length, R.l.flatMap RoofD.cells⟩ :: ⟨97, 7, C.val, C.l.length, C.l.flatMap CueD.cells⟩ :: ⟨100, 2, A.val, A.l.length, A.l.flatMap pairCells⟩ :: (S.l.flatMap SetD.rows ++ C.l.flatMap CueD.rows)
def memRest (nm : ByteArray) (ht : Int) (S : Sl SetD) (R : Sl RoofD) (C : Sl CueD) (A : Sl (ByteArray × ByteArray)) : List Value := [.string nm, .int .i64 ht, S.val, R.val, C.val, A.val]
end Go.Proofs.YtcdkhlndohokcaaGreatDoor
