/- (*strings.Builder).WriteString (turned from the shelf's own proof), with what it keeps. -/
import Derived.Test.YtgamhdbcejkllaaGreatDoorBuilder
import Derived.Lib.Builder
import Derived.Test.YtgamhdbcejkllaaGreatDoorOwn
import Derived.Lib.Walk
import Derived.Lib.AppendStr
import Derived.Lib.UnsafeStr
namespace Go.Proofs.YtgamhdbcejkllaaGreatDoor
open Go.RowKit

/-- blocks of other types than the builder's and the bytes' stay as they are -/
def KeepT (w w' : World) : Prop := ∀ (k : Nat) (cs : Array Value) (t : TypeId) (fr : Nat × Nat), t ≠ 68 → t ≠ 5 → w.heap[k]? = some (.cells cs t fr) → w'.heap[k]? = some (.cells cs t fr)
theorem KeepT.refl (w : World) : KeepT w w := fun _ _ _ _ _ _ h => h
theorem KeepT.trans {a b c : World} (h : KeepT a b) (h' : KeepT b c) : KeepT a c := fun k cs t fr h1 h2 h3 => h' k cs t fr h1 h2 (h k cs t fr h1 h2 h3)
theorem KeepT.below {w w' : World} (h : Below w.heap.size w w') : KeepT w w' := fun k _ _ _ _ _ h3 => (h.block k (Array.getElem?_eq_some_iff.1 h3).1).trans h3
theorem KeepT.setB {w : World} {b i : Nat} {c : Array Value} {fr : Nat × Nat} (h : w.heap[b]? = some (.cells c 68 fr)) (v : Value) : KeepT w (w.setCell ⟨b, i, none⟩ v) := fun k cs t fr' h1 _ h3 => by
  by_cases e : k = b
  · subst e; rw [h] at h3; injection h3 with h3; injection h3 with _ h4; exact absurd h4.symm h1
  · rw [RowKit.Below.heap_setCell _ _ _ _ e]; exact h3
theorem builder_below {T e : TypeId} {B b : Nat} {p : Value} {bs : List Value} {w w' : World} (h : Lib.BuilderAt T e B b p bs w) (hb : Below w.heap.size w w') : Lib.BuilderAt T e B b p bs w' := by
  obtain ⟨hB, v, hbk, hown, hne⟩ := h
  exact ⟨hB, v, (hb.block b (Array.getElem?_eq_some_iff.1 hbk).1).trans hbk, own_below hown hb, hne⟩
theorem isBuilder_below {T e : TypeId} {B b : Nat} {bs : List Value} {w w' : World} (h : Lib.IsBuilder T e B b bs w) (hb : Below w.heap.size w w') : Lib.IsBuilder T e B b bs w' := by
  rcases h with h | h
  · exact Or.inl (builder_below h hb)
  · exact Or.inr (builder_below h hb)

theorem copyCheck_keep (B b : Nat) (bs : List Value) (w : World) (h : Lib.IsBuilder 68 5 B b bs w) :
    Calls Tryz.prog 44 #[.pointer (some ⟨b, 0, none⟩)] w fun e w' => e = .returned (.tuple #[]) ∧ (Lib.BuilderAt 68 5 B b (.pointer (some ⟨b, 0, none⟩)) bs w' ∧ Below B w w') ∧ KeepT w w' := by
  rcases h with h | h
  · refine (copyCheck_fresh b w h.cell0 h.shape h.frozen0).mono ?_
    rintro e w' ⟨rfl, rfl⟩
    obtain ⟨hB, v, hbk, r⟩ := h
    exact ⟨rfl, ⟨Lib.BuilderAt.used ⟨hB, v, hbk, r⟩ _, (Below.refl B w).setCell (p := ⟨b, 0, none⟩) hB _⟩, KeepT.setB hbk _⟩
  · refine (copyCheck_used b w h.cell0).mono ?_
    rintro e w' ⟨rfl, rfl⟩
    exact ⟨rfl, ⟨h, Below.refl B _⟩, KeepT.refl _⟩
theorem enters_copyCheck2 : ∀ args w, (callFunc 44 args).run Tryz.prog w = .ok (.enter 44 args) w := entersOf Tryz.func44 (by kernel_rfl) rfl
set_option maxHeartbeats 2000000 in
set_option maxRecDepth 100000 in
theorem writeString_any (B b : Nat) (bs : List Value) (s : ByteArray) (w : World) (h : Lib.IsBuilder 68 5 B b bs w) (hlen : bs.length + s.size ≤ 140737488355328) (hBw : B ≤ w.heap.size) :
    Calls Tryz.prog 21 #[.pointer (some ⟨b, 0, none⟩), .string s] w fun e w' => e = .returned (.tuple #[.int .i64 s.size, .nilIface]) ∧ (Lib.BuilderAt 68 5 B b (.pointer (some ⟨b, 0, none⟩)) (bs ++ Lib.strCells s) w' ∧ Below B w w') ∧ KeepT w w' := by
  obtain ⟨i0, hi, hz0, hz1, hz2⟩ := info_parts infoByte
  go_enter Tryz.func21, Tryz.ntmps21
  go_wp2_with (go_at_call 44; refine (copyCheck_keep B b bs _ h).mono ?_)
  rintro e w1 ⟨rfl, ⟨h1, hb1⟩, hk1⟩
  obtain ⟨hB, v, hbk, hown, hne⟩ := h1
  have c0 : w1.cell? ⟨b, 0, none⟩ = some (.pointer (some ⟨b, 0, none⟩)) := by rw [Lib.cell_of_heap hbk]; rfl
  have c1 : w1.cell? ⟨b, 1, none⟩ = some v := by rw [Lib.cell_of_heap hbk]; rfl
  go_wp2_with (at_builtin; refine Lib.wpList_append_own_string _ rfl _ _ 66 9 rfl B 5 i0 Tryz.underlying66 Tryz.underlying9 hi hz0 hz1 hz2 _ _ _ rfl hown s rfl ?c3 ?c4 ?c5 ?_)
  case c3 => unfold maxLen; omega
  case c4 => omega
  case c5 => have := hb1.size; omega
  intro v' w2 hown' hgrow _
  have hlt : b < w1.heap.size := (Array.getElem?_eq_some_iff.1 hbk).1
  have hb2 : w2.heap[b]? = some (.cells #[.pointer (some ⟨b, 0, none⟩), v] 68 (0, 0)) := by
    rw [hgrow.block b hlt (fun e => hne e.symm)]
    exact hbk
  have hk2 : KeepT w1 w2 := fun k cs t fr h1 h2 h3 => by
    refine (hgrow.block k (Array.getElem?_eq_some_iff.1 h3).1 fun e => ?_).trans h3
    rcases hown.2 with ⟨hv, _⟩ | ⟨g, cap, cur, hv, _, hh, _⟩
    · rw [hv] at e; simp [Value.ownBlock] at e
    · rw [hv] at e; simp [Value.ownBlock] at e
      subst e
      rw [hh] at h3; injection h3 with h3; injection h3 with _ h4; exact h2 h4.symm
  have d0 : w2.cell? ⟨b, 0, none⟩ = some (.pointer (some ⟨b, 0, none⟩)) := by rw [Lib.cell_of_heap hb2]; rfl
  have d1 : w2.cell? ⟨b, 1, none⟩ = some v := by rw [Lib.cell_of_heap hb2]; rfl
  have f1 : w2.frozen? ⟨b, 1, none⟩ = false := Lib.frozen_of_heap hb2 1
  obtain ⟨ao, n', cap, rfl⟩ : ∃ ao n' cap, v' = .slice ao n' cap := by
    rcases hown'.2 with ⟨hv, _⟩ | ⟨g, cap, cur, hv, _⟩
    · exact ⟨_, _, _, hv⟩
    · exact ⟨_, _, _, hv⟩
  go_wp2
  go_ret2
  refine ⟨rfl, ⟨?_, ?_⟩, ?_⟩
  · exact Lib.BuilderAt.put (T := 68) (e := 5) hB hb2 (bs' := bs ++ Lib.strCells s) (by simpa [Lib.strCells_length] using hown') (by decide)
  · exact (hb1.grown hgrow (by have := hb1.size; omega) (fun k hk => (hown.lt k hk).1)).setCell (p := ⟨b, 1, none⟩) hB _
  · exact (hk1.trans hk2).trans (KeepT.setB hb2 _)

/-- the builder in block b holds the text T -/
structure TSt (W : World) (b : Nat) (T : List UInt8) (x : World) : Prop where
  ib : Lib.IsBuilder 68 5 b b (Lib.byteCells T) x
  bel : Below W.heap.size W x
  le : W.heap.size ≤ b
  lt : b < x.heap.size
theorem TSt.more {W x y : World} {b : Nat} {T : List UInt8} (h : TSt W b T x) (hb : Below x.heap.size x y) : TSt W b T y :=
  ⟨isBuilder_below h.ib hb, h.bel.trans (hb.mono h.bel.size), h.le, Nat.lt_of_lt_of_le h.lt hb.size⟩
theorem TSt.fresh (W x : World) (hb : Below W.heap.size W x) : TSt W x.heap.size [] (x.alloc (.cells #[.pointer none, .slice none 0 0] 68)) :=
  ⟨Lib.fresh_isBuilder _ _ x, hb.alloc hb.size _, hb.size, by simp⟩
theorem write_any {W x : World} {b : Nat} {T : List UInt8} (st : TSt W b T x) (s : ByteArray) (hlen : T.length + s.size ≤ 140737488355328) :
    Calls Tryz.prog 21 #[.pointer (some ⟨b, 0, none⟩), .string s] x fun e w' => e = .returned (.tuple #[.int .i64 s.size, .nilIface]) ∧ TSt W b (T ++ s.data.toList) w' ∧ KeepT x w' := by
  refine (writeString_any b b (Lib.byteCells T) s x st.ib (by rw [Lib.byteCells_length]; exact hlen) (Nat.le_of_lt st.lt)).mono ?_
  rintro e w' ⟨he, ⟨h1, h2⟩, h3⟩
  exact ⟨he, ⟨Or.inr (by rw [Lib.byteCells_append, ← Lib.strCells_eq]; exact h1), st.bel.trans (h2.mono st.le), st.le, Nat.lt_of_lt_of_le st.lt h2.size⟩, h3⟩
end Go.Proofs.YtgamhdbcejkllaaGreatDoor
