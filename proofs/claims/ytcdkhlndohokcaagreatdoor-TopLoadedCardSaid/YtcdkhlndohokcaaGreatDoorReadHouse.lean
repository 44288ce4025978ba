/- A House, a list of ints and the plain kinds among the arguments: what was read as data is the plain data that the walks speak of. -/
import Derived.Test.YtcdkhlndohokcaaGreatDoorData
import Derived.Test.YtcdkhlndohokcaaGreatDoorProg
import Derived.Deep.Slices
import Derived.Deep.Fields
import Derived.ChangeSame
import Derived.ChangeArms
namespace Go.Proofs.YtcdkhlndohokcaaGreatDoor
open Go.RowKit Go.ChangeShapes Go.WideShapes Go.Deep

section
variable {H : Type} {enc : TypeId × Value → H} {w : World}

/-- a cell that reads as an int of 64 bits -/
theorem readInt {n : Nat} {c : Value} {y : DataW H × List MemPlace} (h : DataW.trod enc Tryz.prog w 0 (fun _ => true) true n 3 [c] = some y) : ∃ k : Int, c = .int .i64 k ∧ I64 k := by
  obtain ⟨k, e, _, hw⟩ := DataW.trod_int Tryz.underlying3 h
  injection e with e _
  refine ⟨k, e, ?_⟩
  have : -9223372036854775808 ≤ k ∧ k ≤ 9223372036854775807 := by simpa [Lit.wf, IntKind.min, IntKind.max, IntKind.signed, IntKind.bits] using hw
  exact this
theorem readString {n : Nat} {c : Value} {y : DataW H × List MemPlace} (h : DataW.trod enc Tryz.prog w 0 (fun _ => true) true n 9 [c] = some y) : ∃ s : ByteArray, c = .string s ∧ s.size ≤ maxLen := by
  obtain ⟨s, e, _, hs⟩ := DataW.trod_string Tryz.underlying9 h
  injection e with e _
  exact ⟨s, e, hs⟩

/-- what is read of an element's cells -/
def ElemOf (enc : TypeId × Value → H) (w : World) {α : Type} (e : TypeId) (size : Nat) (cells : α → List Value) (good : α → Prop) : Prop :=
  ∀ (n : Nat) (cs : List Value) (y : DataW H × List MemPlace), cs.length = size → DataW.trod enc Tryz.prog w 0 (fun _ => true) true n e cs = some y → ∃ x : α, cells x = cs ∧ good x

theorem block_lt_of_cell {a : Addr} {v : Value} (h : w.cell? a = some v) : a.block < w.heap.size := by
  rcases Nat.lt_or_ge a.block w.heap.size with h' | h'
  · exact h'
  · rw [World.cell?, Array.getElem?_eq_none h'] at h
    simp at h
theorem spotless {a : Addr} {v : Value} (h : w.cell? a = some v) : ∃ b off, a = ⟨b, off, none⟩ ∧ b < w.heap.size := by
  obtain ⟨b, off, sp⟩ := a
  have h1 := World.cell?_spot h
  simp only at h1
  subst h1
  exact ⟨b, off, rfl, block_lt_of_cell h⟩
theorem readSlice {α : Type} {t e : TypeId} {size : Nat} {cells : α → List Value} {good : α → Prop} (ht : Tryz.prog.underlying t = some (.slice e)) (hsz : Tryz.prog.cellsOf e = size) (hpos : 0 < size) (hlen : ∀ x, (cells x).length = size) (hE : ElemOf enc w e size cells good) {n : Nat} {c : Value} {y : DataW H × List MemPlace}
    (h : DataW.trod enc Tryz.prog w 0 (fun _ => true) true n t [c] = some y) : ∃ s : Sl α, c = .slice s.A s.l.length s.cap ∧ SlAt w w.heap.size size cells s ∧ ∀ x ∈ s.l, good x := by
  rcases open_slice ht h with ⟨e0, _⟩ | ⟨a, len, cap, m, n', D, Pl, e0, _, hl, hm, hmm, _, hel⟩
  · injection e0 with e0 _
    exact ⟨⟨none, 0, []⟩, e0, ⟨Nat.le_refl _, Nat.zero_le _, fun h => absurd h (by simp)⟩, fun x hx => by simp at hx⟩
  · injection e0 with e0 _
    have hmc : len ≤ m := by
      have : m = cap := by simpa using hmm
      omega
    clear hmm
    rcases Nat.eq_zero_or_pos len with hl0 | hl0
    · subst hl0
      exact ⟨⟨some a, cap, []⟩, e0, ⟨Nat.zero_le _, hm, fun h => absurd h (by simp)⟩, fun x hx => by simp at hx⟩
    have each : ∀ i, i < len → ∃ x : α, good x ∧ ∀ j u, (cells x)[j]? = some u → w.cell? (a.add (i * size + j)) = some u := fun i hi => by
      obtain ⟨cs', hc, ht'⟩ := hel i (by omega)
      rw [hsz] at hc
      obtain ⟨_, hcl, hat⟩ := World.cells?_some hc
      obtain ⟨x, hx, hg⟩ := hE n' cs' _ hcl ht'
      refine ⟨x, hg, fun j u hu => ?_⟩
      have hj : j < size := by rw [← hlen x]; exact (List.getElem?_eq_some_iff.1 hu).1
      rw [← Go.Deep.add_add, hat j hj, ← hx, hu]
    haveI : Inhabited α := ⟨(each 0 hl0).choose⟩
    obtain ⟨X, hX⟩ := choose_lt (α := α) (p := fun i x => good x ∧ ∀ j u, (cells x)[j]? = some u → w.cell? (a.add (i * size + j)) = some u) each
    refine ⟨⟨some a, cap, (List.range len).map X⟩, by simpa using e0, ⟨by simpa using hl, hm, fun _ => ?_⟩, fun x hx => ?_⟩
    · have h0 : 0 < len := hl0
      have hc0 := (hX 0 h0).2 0
      have hl0 : 0 < (cells (X 0)).length := by rw [hlen]; exact hpos
      obtain ⟨b, off, rfl, hb⟩ := spotless (a := a) (by simpa [Addr.add] using hc0 _ (List.getElem?_eq_getElem hl0))
      refine ⟨b, off, rfl, hb, fun i x hx j u hu => ?_⟩
      have hx' : i < len ∧ X i = x := by
        rw [List.getElem?_map] at hx
        rcases Nat.lt_or_ge i len with h | h
        · rw [List.getElem?_range h] at hx
          simp at hx
          exact ⟨h, hx⟩
        · rw [List.getElem?_eq_none (by simpa using h)] at hx
          simp at hx
      obtain ⟨hi, rfl⟩ := hx'
      have := (hX i hi).2 j u hu
      have e : (⟨b, off, none⟩ : Addr).add (i * size + j) = ⟨b, off + (i * size + j), none⟩ := by
        unfold Addr.add
        by_cases hz : i * size + j = 0
        · rw [if_pos hz, hz]; rfl
        · rw [if_neg hz]
      rwa [e] at this
    · simp only [List.mem_map, List.mem_range] at hx
      obtain ⟨i, hi, rfl⟩ := hx
      exact (hX i hi).1
theorem field_of {fs : Array Field} (hone : oneCellFields Tryz.prog fs = true) {n : Nat} {cs : List Value} {xs : List (DataW H × List MemPlace)} (hlen : xs.length = fs.size)
    (hg : ∀ (i : Nat) (f : Field), fs[i]? = some f → DataW.trod enc Tryz.prog w 0 (fun _ => true) true n f.type ((cs.drop f.offset).take (Tryz.prog.cellsOf f.type)) = xs[i]?) (i : Nat) (f : Field) (hf : fs[i]? = some f) (c : Value) (hc : cs[i]? = some c) :
    ∃ y, DataW.trod enc Tryz.prog w 0 (fun _ => true) true n f.type [c] = some y := by
  obtain ⟨ho, hk⟩ := hone_of hone i f hf
  have hi : i < xs.length := by rw [hlen]; exact (Array.getElem?_eq_some_iff.1 hf).1
  have h1 := hg i f hf
  obtain ⟨hi', e⟩ := List.getElem?_eq_some_iff.1 hc
  rw [ho, hk, List.drop_eq_getElem_cons hi', e, List.getElem?_eq_getElem hi] at h1
  exact ⟨_, h1⟩

theorem readInts {n : Nat} {c : Value} {y : DataW H × List MemPlace} (h : DataW.trod enc Tryz.prog w 0 (fun _ => true) true n 22 [c] = some y) : ∃ s : Sl Int, c = .slice s.A s.l.length s.cap ∧ SlAt w w.heap.size 1 intCells s ∧ ∀ x ∈ s.l, I64 x :=
  readSlice (size := 1) (cells := intCells) (good := I64) Tryz.underlying22 (by kernel_rfl) (by omega) (fun _ => rfl) (fun n cs y hl h => by
    match cs, hl with
    | [c], _ =>
      obtain ⟨k, rfl, hk⟩ := readInt h
      exact ⟨k, rfl, hk⟩) h
set_option maxRecDepth 100000 in
theorem elemItem : ElemOf enc w 63 7 ItemD.cells (fun x => x.ok) := fun n cs y hl h => by
  obtain ⟨xs, n', _, _, _, hlen, hg⟩ := DataW.trod_struct Tryz.underlying63 h
  match cs, hl with
  | [c0, c1, c2, c3, c4, c5, c6], _ =>
    obtain ⟨_, t0⟩ := field_of (by kernel_rfl) hlen hg 0 _ rfl c0 rfl
    obtain ⟨_, t1⟩ := field_of (by kernel_rfl) hlen hg 1 _ rfl c1 rfl
    obtain ⟨_, t2⟩ := field_of (by kernel_rfl) hlen hg 2 _ rfl c2 rfl
    obtain ⟨_, t3⟩ := field_of (by kernel_rfl) hlen hg 3 _ rfl c3 rfl
    obtain ⟨_, t4⟩ := field_of (by kernel_rfl) hlen hg 4 _ rfl c4 rfl
    obtain ⟨_, t5⟩ := field_of (by kernel_rfl) hlen hg 5 _ rfl c5 rfl
    obtain ⟨_, t6⟩ := field_of (by kernel_rfl) hlen hg 6 _ rfl c6 rfl
    obtain ⟨s0, rfl, b0⟩ := readString t0
    obtain ⟨s1, rfl, b1⟩ := readInt t1
    obtain ⟨s2, rfl, b2⟩ := readInt t2
    obtain ⟨s3, rfl, b3⟩ := readInt t3
    obtain ⟨s4, rfl, b4⟩ := readInt t4
    obtain ⟨s5, rfl, b5⟩ := readInt t5
    obtain ⟨s6, rfl, b6⟩ := readInt t6
    exact ⟨⟨s0, s1, s2, s3, s4, s5, s6⟩, rfl, ⟨b0, b1, b2, b3, b4, b5, b6⟩⟩
set_option maxRecDepth 100000 in
theorem elemBrick : ElemOf enc w 65 3 BrickD.cells (fun x => x.ok) := fun n cs y hl h => by
  obtain ⟨xs, n', _, _, _, hlen, hg⟩ := DataW.trod_struct Tryz.underlying65 h
  match cs, hl with
  | [c0, c1, c2], _ =>
    obtain ⟨_, t0⟩ := field_of (by kernel_rfl) hlen hg 0 _ rfl c0 rfl
    obtain ⟨_, t1⟩ := field_of (by kernel_rfl) hlen hg 1 _ rfl c1 rfl
    obtain ⟨_, t2⟩ := field_of (by kernel_rfl) hlen hg 2 _ rfl c2 rfl
    obtain ⟨s0, rfl, b0⟩ := readString t0
    obtain ⟨s1, rfl, b1⟩ := readInt t1
    obtain ⟨s2, rfl, b2⟩ := readInt t2
    exact ⟨⟨s0, s1, s2⟩, rfl, ⟨b0, b1, b2⟩⟩
set_option maxRecDepth 100000 in
theorem elemRoof : ElemOf enc w 94 4 RoofD.cells (fun x => x.ok) := fun n cs y hl h => by
  obtain ⟨xs, n', _, _, _, hlen, hg⟩ := DataW.trod_struct Tryz.underlying94 h
  match cs, hl with
  | [c0, c1, c2, c3], _ =>
    obtain ⟨_, t0⟩ := field_of (by kernel_rfl) hlen hg 0 _ rfl c0 rfl
    obtain ⟨_, t1⟩ := field_of (by kernel_rfl) hlen hg 1 _ rfl c1 rfl
    obtain ⟨_, t2⟩ := field_of (by kernel_rfl) hlen hg 2 _ rfl c2 rfl
    obtain ⟨_, t3⟩ := field_of (by kernel_rfl) hlen hg 3 _ rfl c3 rfl
    obtain ⟨s0, rfl, b0⟩ := readString t0
    obtain ⟨s1, rfl, b1⟩ := readInt t1
    obtain ⟨s2, rfl, b2⟩ := readInt t2
    obtain ⟨s3, rfl, b3⟩ := readInt t3
    exact ⟨⟨s0, s1, s2, s3⟩, rfl, ⟨b0, b1, b2, b3⟩⟩
set_option maxRecDepth 100000 in
theorem elemSet : ElemOf enc w 26 13 SetD.cells (fun x => x.ok ∧ SetD.at_ w w.heap.size x) := fun n cs y hl h => by
  obtain ⟨xs, n', _, _, _, hlen, hg⟩ := DataW.trod_struct Tryz.underlying26 h
  match cs, hl with
  | [c0, c1, c2, c3, c4, c5, c6, c7, c8, c9, c10, c11, c12], _ =>
    obtain ⟨_, t0⟩ := field_of (by kernel_rfl) hlen hg 0 _ rfl c0 rfl
    obtain ⟨_, t1⟩ := field_of (by kernel_rfl) hlen hg 1 _ rfl c1 rfl
    obtain ⟨_, t2⟩ := field_of (by kernel_rfl) hlen hg 2 _ rfl c2 rfl
    obtain ⟨_, t3⟩ := field_of (by kernel_rfl) hlen hg 3 _ rfl c3 rfl
    obtain ⟨_, t4⟩ := field_of (by kernel_rfl) hlen hg 4 _ rfl c4 rfl
    obtain ⟨_, t5⟩ := field_of (by kernel_rfl) hlen hg 5 _ rfl c5 rfl
    obtain ⟨_, t6⟩ := field_of (by kernel_rfl) hlen hg 6 _ rfl c6 rfl
    obtain ⟨_, t7⟩ := field_of (by kernel_rfl) hlen hg 7 _ rfl c7 rfl
    obtain ⟨_, t8⟩ := field_of (by kernel_rfl) hlen hg 8 _ rfl c8 rfl
    obtain ⟨_, t9⟩ := field_of (by kernel_rfl) hlen hg 9 _ rfl c9 rfl
    obtain ⟨_, t10⟩ := field_of (by kernel_rfl) hlen hg 10 _ rfl c10 rfl
    obtain ⟨_, t11⟩ := field_of (by kernel_rfl) hlen hg 11 _ rfl c11 rfl
    obtain ⟨_, t12⟩ := field_of (by kernel_rfl) hlen hg 12 _ rfl c12 rfl
    obtain ⟨s0, rfl, b0⟩ := readString t0
    obtain ⟨s1, rfl, b1⟩ := readInt t1
    obtain ⟨s2, rfl, b2⟩ := readInt t2
    obtain ⟨s3, rfl, b3⟩ := readInt t3
    obtain ⟨s4, rfl, b4⟩ := readInt t4
    obtain ⟨s5, rfl, a5, b5⟩ := readInts t5
    obtain ⟨s6, rfl, b6⟩ := readInt t6
    obtain ⟨s7, rfl, b7⟩ := readInt t7
    obtain ⟨s8, rfl, b8⟩ := readInt t8
    obtain ⟨s9, rfl, b9⟩ := readInt t9
    obtain ⟨s10, rfl, b10⟩ := readInt t10
    obtain ⟨s11, rfl, a11, b11⟩ := readSlice (size := 7) (cells := ItemD.cells) Tryz.underlying23 (by kernel_rfl) (by decide) (fun _ => rfl) elemItem t11
    obtain ⟨s12, rfl, a12, b12⟩ := readSlice (size := 3) (cells := BrickD.cells) Tryz.underlying24 (by kernel_rfl) (by omega) (fun _ => rfl) elemBrick t12
    exact ⟨⟨s0, s1, s2, s3, s4, s5, s6, s7, s8, s9, s10, s11, s12⟩, rfl, ⟨b0, b1, b2, b3, b4, b5, b6, b7, b8, b9, b10, b11, b12⟩, ⟨a5, a11, a12⟩⟩
set_option maxRecDepth 100000 in
/-- a House that came in by value -/
theorem readHouse {r : Reach} {b0 : Nat} {v : Value} {d : DataW H} {p : List MemPlace} (hv : Value.okWide Tryz.prog w r b0 54 v) (h : DataW.Trod enc Tryz.prog w 0 (fun _ => true) true 54 v d p) :
    ∃ h : HouseD, v = .agg #[.string h.name, .int .i64 h.height, .slice h.sets.A h.sets.l.length h.sets.cap, .slice h.roofs.A h.roofs.l.length h.roofs.cap] ∧ h.ok ∧ HouseD.at_ w w.heap.size h := by
  obtain ⟨cs, rfl, hsz⟩ := okWide_struct Tryz.underlying54 hv
  obtain ⟨cs⟩ := cs
  obtain ⟨fuel, hf⟩ := h
  obtain ⟨xs, n', _, _, _, hlen, hg⟩ := DataW.trod_struct Tryz.underlying54 hf
  match cs, hsz.trans (show Tryz.prog.cellsOf 54 = 4 by kernel_rfl) with
  | [c0, c1, c2, c3], _ =>
    obtain ⟨_, t0⟩ := field_of (by kernel_rfl) hlen hg 0 _ rfl c0 rfl
    obtain ⟨_, t1⟩ := field_of (by kernel_rfl) hlen hg 1 _ rfl c1 rfl
    obtain ⟨_, t2⟩ := field_of (by kernel_rfl) hlen hg 2 _ rfl c2 rfl
    obtain ⟨_, t3⟩ := field_of (by kernel_rfl) hlen hg 3 _ rfl c3 rfl
    obtain ⟨s0, rfl, b0⟩ := readString t0
    obtain ⟨s1, rfl, b1⟩ := readInt t1
    obtain ⟨s2, rfl, a2, b2⟩ := readSlice (size := 13) (cells := SetD.cells) Tryz.underlying51 (by kernel_rfl) (by omega) (fun _ => rfl) elemSet t2
    obtain ⟨s3, rfl, a3, b3⟩ := readSlice (size := 4) (cells := RoofD.cells) Tryz.underlying52 (by kernel_rfl) (by omega) (fun _ => rfl) elemRoof t3
    exact ⟨⟨s0, s1, s2, s3⟩, rfl, ⟨b0, b1, fun s hs => (b2 s hs).1, b3⟩, ⟨a2, fun s hs => (b2 s hs).2, a3⟩⟩
end
end Go.Proofs.YtcdkhlndohokcaaGreatDoor
