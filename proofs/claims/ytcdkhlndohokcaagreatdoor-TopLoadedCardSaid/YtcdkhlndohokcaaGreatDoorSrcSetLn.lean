/- (*strings.Builder).WriteString on the builder inside the writer of sources. The writer's method line. The lines that the writer writes are the lines of the text: in plain Lean. A line of literal words and numbers, written. The lines of houses, roofs, items, bricks, moves and pairs, written. A line of words in an own row and literal numbers, written: the lines of cues. What the writer's builder holds: its length. A valid house's sets have at least two lines: in plain Lean. The line of a set, written: words in a literal row, numbers in an appended row. -/
import Derived.Lib.Builder
import Derived.Lib.Walk
import Derived.Laws.Externs
import Derived.Laws.IdiomCopy
import Derived.Test.YtcdkhlndohokcaaGreatDoorOwn
import Derived.Lib.AppendStr
import Derived.Lib.UnsafeStr
import Derived.Test.YtcdkhlndohokcaaGreatDoorProg
import Derived.Test.YtcdkhlndohokcaaGreatDoorData
import Derived.Test.YtcdkhlndohokcaaGreatDoorDecLib
import Derived.Test.YtcdkhlndohokcaaGreatDoorSrcPut9
import Derived.Lib.ItoaLen
import Derived.Test.YtcdkhlndohokcaaGreatDoorSrcToks
import Derived.Test.YtcdkhlndohokcaaGreatDoorSrcSheet
import Derived.Test.YtcdkhlndohokcaaGreatDoorHouseValid
import Derived.Test.YtcdkhlndohokcaaGreatDoorSrcAt
import Derived.Deep.RegionHeld3
import Derived.Deep.AppendLies
namespace Go.Proofs.YtcdkhlndohokcaaGreatDoor
open Go.RowKit

theorem sizeBuilderW : (Tryz.prog.info? 88).map (·.size) = some 2 := by kernel_rfl
theorem liesBuilderW : liesAt Tryz.prog Tryz.prog.depth 90 (2 / Tryz.prog.cellsOf 90) 0 88 1 = true := by kernel_rfl
theorem infoByteW : (Tryz.prog.info? 5).map (fun i => (i.zero, i.size, i.bytes)) = some (some (.int .u8 0), 1, 1) := by kernel_rfl
set_option maxHeartbeats 1000000 in
set_option maxRecDepth 100000 in
theorem copyCheck_usedW (b : Nat) (w : World) (h0 : w.cell? ⟨b, 0, none⟩ = some (.pointer (some ⟨b, 0, none⟩))) :
    Calls Tryz.prog 87 #[.pointer (some ⟨b, 0, none⟩)] w fun e w' => e = .returned (.tuple #[]) ∧ w' = w := by
  obtain ⟨j, hj, _⟩ := Option.map_eq_some_iff.1 sizeBuilderW
  go_enter Tryz.func87, Tryz.ntmps87
  go_wp2
  rw [Lib.run_neq_ptr_same w _ Tryz.underlying85 hj]
  go_wp2
  go_end0
  exact ⟨rfl, rfl⟩
set_option maxHeartbeats 1000000 in
set_option maxRecDepth 100000 in
theorem copyCheck_freshW (b : Nat) (w : World) (h0 : w.cell? ⟨b, 0, none⟩ = some (.pointer none)) (hsh : w.shape? b = some (90, 2)) (hfz : w.frozen? ⟨b, 0, none⟩ = false) :
    Calls Tryz.prog 87 #[.pointer (some ⟨b, 0, none⟩)] w fun e w' => e = .returned (.tuple #[]) ∧ w' = w.setCell ⟨b, 0, none⟩ (.pointer (some ⟨b, 0, none⟩)) := by
  obtain ⟨j, hj, hjs⟩ := Option.map_eq_some_iff.1 sizeBuilderW
  go_enter Tryz.func87, Tryz.ntmps87
  go_wp2
  rw [Lib.run_to_unsafe w ⟨b, 0, none⟩ Tryz.underlying85 Tryz.underlying151 hj (by rw [hjs]; decide) hsh (Nat.zero_lt_succ 1)]
  simp only [Result.andThen]
  rw [Oper.upon_value]
  go_wp2
  rw [run_callFunc_extern Tryz.func101 (by kernel_rfl) (by kernel_rfl) (by kernel_rfl) (e := Extern.AbiNoEscape.same) (by kernel_rfl)]
  rw [Lib.run_noEscape]
  simp only [Result.andThen]
  rw [Oper.upon_value]
  go_wp2
  rw [Lib.run_from_unsafe w ⟨b, 0, none⟩ Tryz.underlying151 Tryz.underlying85 hj hsh liesBuilderW]
  simp only [Result.andThen]
  rw [Oper.upon_value]
  go_wp2
  go_end0
  exact ⟨rfl, rfl⟩
/-- blocks of other types than the builder's and the bytes' stay as they are -/
def KeepW (w w' : World) : Prop := ∀ (k : Nat) (cs : Array Value) (t : TypeId) (fr : Nat × Nat), t ≠ 90 → t ≠ 5 → w.heap[k]? = some (.cells cs t fr) → w'.heap[k]? = some (.cells cs t fr)
theorem KeepW.refl (w : World) : KeepW w w := fun _ _ _ _ _ _ h => h
theorem KeepW.trans {a b c : World} (h : KeepW a b) (h' : KeepW b c) : KeepW a c := fun k cs t fr h1 h2 h3 => h' k cs t fr h1 h2 (h k cs t fr h1 h2 h3)
theorem KeepW.below {w w' : World} (h : Below w.heap.size w w') : KeepW w w' := fun k _ _ _ _ _ h3 => (h.block k (Array.getElem?_eq_some_iff.1 h3).1).trans h3
theorem KeepW.setB {w : World} {b i : Nat} {c : Array Value} {fr : Nat × Nat} (h : w.heap[b]? = some (.cells c 90 fr)) (v : Value) : KeepW w (w.setCell ⟨b, i, none⟩ v) := fun k cs t fr' h1 _ h3 => by
  by_cases e : k = b
  · subst e; rw [h] at h3; injection h3 with h3; injection h3 with _ h4; exact absurd h4.symm h1
  · rw [RowKit.Below.heap_setCell _ _ _ _ e]; exact h3
theorem builderW_below {T e : TypeId} {B b : Nat} {p : Value} {bs : List Value} {w w' : World} (h : Lib.BuilderAt T e B b p bs w) (hb : Below w.heap.size w w') : Lib.BuilderAt T e B b p bs w' := by
  obtain ⟨hB, v, hbk, hown, hne⟩ := h
  exact ⟨hB, v, (hb.block b (Array.getElem?_eq_some_iff.1 hbk).1).trans hbk, own_below hown hb, hne⟩
theorem isBuilderX_below {T e : TypeId} {B b : Nat} {bs : List Value} {w w' : World} (h : Lib.IsBuilder T e B b bs w) (hb : Below w.heap.size w w') : Lib.IsBuilder T e B b bs w' := by
  rcases h with h | h
  · exact Or.inl (builderW_below h hb)
  · exact Or.inr (builderW_below h hb)

theorem copyCheck_keepW (B b : Nat) (bs : List Value) (w : World) (h : Lib.IsBuilder 90 5 B b bs w) :
    Calls Tryz.prog 87 #[.pointer (some ⟨b, 0, none⟩)] w fun e w' => e = .returned (.tuple #[]) ∧ (Lib.BuilderAt 90 5 B b (.pointer (some ⟨b, 0, none⟩)) bs w' ∧ Below B w w') ∧ KeepW w w' := by
  rcases h with h | h
  · refine (copyCheck_freshW b w h.cell0 h.shape h.frozen0).mono ?_
    rintro e w' ⟨rfl, rfl⟩
    obtain ⟨hB, v, hbk, r⟩ := h
    exact ⟨rfl, ⟨Lib.BuilderAt.used ⟨hB, v, hbk, r⟩ _, (Below.refl B w).setCell (p := ⟨b, 0, none⟩) hB _⟩, KeepW.setB hbk _⟩
  · refine (copyCheck_usedW b w h.cell0).mono ?_
    rintro e w' ⟨rfl, rfl⟩
    exact ⟨rfl, ⟨h, Below.refl B _⟩, KeepW.refl _⟩
theorem enters_copyCheckW : ∀ args w, (callFunc 87 args).run Tryz.prog w = .ok (.enter 87 args) w := entersOf Tryz.func87 (by kernel_rfl) rfl
set_option maxHeartbeats 2000000 in
set_option maxRecDepth 100000 in
theorem writeStringW_any (B b : Nat) (bs : List Value) (s : ByteArray) (w : World) (h : Lib.IsBuilder 90 5 B b bs w) (hlen : bs.length + s.size ≤ 140737488355328) (hBw : B ≤ w.heap.size) :
    Calls Tryz.prog 64 #[.pointer (some ⟨b, 0, none⟩), .string s] w fun e w' => e = .returned (.tuple #[.int .i64 s.size, .nilIface]) ∧ (Lib.BuilderAt 90 5 B b (.pointer (some ⟨b, 0, none⟩)) (bs ++ Lib.strCells s) w' ∧ Below B w w') ∧ KeepW w w' := by
  obtain ⟨i0, hi, hz0, hz1, hz2⟩ := info_parts infoByteW
  go_enter Tryz.func64, Tryz.ntmps64
  go_wp2_with (go_at_call 87; refine (copyCheck_keepW B b bs _ h).mono ?_)
  rintro e w1 ⟨rfl, ⟨h1, hb1⟩, hk1⟩
  obtain ⟨hB, v, hbk, hown, hne⟩ := h1
  have c0 : w1.cell? ⟨b, 0, none⟩ = some (.pointer (some ⟨b, 0, none⟩)) := by rw [Lib.cell_of_heap hbk]; rfl
  have c1 : w1.cell? ⟨b, 1, none⟩ = some v := by rw [Lib.cell_of_heap hbk]; rfl
  go_wp2_with (at_builtin; refine Lib.wpList_append_own_string _ rfl _ _ 86 9 rfl B 5 i0 Tryz.underlying86 Tryz.underlying9 hi hz0 hz1 hz2 _ _ _ rfl hown s rfl ?c3 ?c4 ?c5 ?_)
  case c3 => unfold maxLen; omega
  case c4 => omega
  case c5 => have := hb1.size; omega
  intro v' w2 hown' hgrow _
  have hlt : b < w1.heap.size := (Array.getElem?_eq_some_iff.1 hbk).1
  have hb2 : w2.heap[b]? = some (.cells #[.pointer (some ⟨b, 0, none⟩), v] 90 (0, 0)) := by
    rw [hgrow.block b hlt (fun e => hne e.symm)]
    exact hbk
  have hk2 : KeepW w1 w2 := fun k cs t fr h1 h2 h3 => by
    refine (hgrow.block k (Array.getElem?_eq_some_iff.1 h3).1 fun e => ?_).trans h3
    rcases hown.2 with ⟨hv, _⟩ | ⟨g, cap, cur, hv, _, hh, _⟩
    · rw [hv] at e; simp [Value.ownBlock] at e
    · rw [hv] at e; simp [Value.ownBlock] at e
      subst e
      rw [hh] at h3; injection h3 with h3; injection h3 with _ h4; exact h2 h4.symm
  have d0 : w2.cell? ⟨b, 0, none⟩ = some (.pointer (some ⟨b, 0, none⟩)) := by rw [Lib.cell_of_heap hb2]; rfl
  have d1 : w2.cell? ⟨b, 1, none⟩ = some v := by rw [Lib.cell_of_heap hb2]; rfl
  have f1 : w2.frozen? ⟨b, 1, none⟩ = false := Lib.frozen_of_heap hb2 1
  obtain ⟨ao, n', cap, rfl⟩ : ∃ ao n' cap, v' = .slice ao n' cap := by
    rcases hown'.2 with ⟨hv, _⟩ | ⟨g, cap, cur, hv, _⟩
    · exact ⟨_, _, _, hv⟩
    · exact ⟨_, _, _, hv⟩
  go_wp2
  go_ret2
  refine ⟨rfl, ⟨?_, ?_⟩, ?_⟩
  · exact Lib.BuilderAt.put (T := 90) (e := 5) hB hb2 (bs' := bs ++ Lib.strCells s) (by simpa [Lib.strCells_length] using hown') (by decide)
  · exact (hb1.grown hgrow (by have := hb1.size; omega) (fun k hk => (hown.lt k hk).1)).setCell (p := ⟨b, 1, none⟩) hB _
  · exact (hk1.trans hk2).trans (KeepW.setB hb2 _)

/-- the builder in block b holds the text T -/
structure TSt (W : World) (b : Nat) (T : List UInt8) (x : World) : Prop where
  ib : Lib.IsBuilder 90 5 b b (Lib.byteCells T) x
  bel : Below W.heap.size W x
  le : W.heap.size ≤ b
  lt : b < x.heap.size
theorem TSt.more {W x y : World} {b : Nat} {T : List UInt8} (h : TSt W b T x) (hb : Below x.heap.size x y) : TSt W b T y :=
  ⟨isBuilderX_below h.ib hb, h.bel.trans (hb.mono h.bel.size), h.le, Nat.lt_of_lt_of_le h.lt hb.size⟩
theorem TSt.fresh (W x : World) (hb : Below W.heap.size W x) : TSt W x.heap.size [] (x.alloc (.cells #[.pointer none, .slice none 0 0] 90)) :=
  ⟨Lib.fresh_isBuilder _ _ x, hb.alloc hb.size _, hb.size, by simp⟩
theorem write_any {W x : World} {b : Nat} {T : List UInt8} (st : TSt W b T x) (s : ByteArray) (hlen : T.length + s.size ≤ 140737488355328) :
    Calls Tryz.prog 64 #[.pointer (some ⟨b, 0, none⟩), .string s] x fun e w' => e = .returned (.tuple #[.int .i64 s.size, .nilIface]) ∧ TSt W b (T ++ s.data.toList) w' ∧ KeepW x w' := by
  refine (writeStringW_any b b (Lib.byteCells T) s x st.ib (by rw [Lib.byteCells_length]; exact hlen) (Nat.le_of_lt st.lt)).mono ?_
  rintro e w' ⟨he, ⟨h1, h2⟩, h3⟩
  exact ⟨he, ⟨Or.inr (by rw [Lib.byteCells_append, ← Lib.strCells_eq]; exact h1), st.bel.trans (h2.mono st.le), st.le, Nat.lt_of_lt_of_le st.lt h2.size⟩, h3⟩
end Go.Proofs.YtcdkhlndohokcaaGreatDoor
namespace Go.Proofs.YtcdkhlndohokcaaGreatDoor
open Go.RowKit

theorem itoaL_any (n : Int) (h : I64 n) (w : World) (ht : Tabs w) : Calls Tryz.prog 71 #[.int .i64 n] w (Gives w (.string ⟨(Lib.itoa n).toArray⟩)) :=
  (Tryz.strconv_Itoa n h.1 h.2 w ht.1).mono fun e w' ⟨he, k, os, hw⟩ => ⟨he, by rw [hw]; exact Lib.below_grow _ w (Nat.le_refl _) k os⟩
theorem own_type {x : World} {base : Nat} {e : TypeId} {size : Nat} {v : Value} {n : Nat} {xs : List Value} {k : Nat} (h : x.ownsRow base e size v n xs) (hk : v.ownBlock = some k) : base ≤ k ∧ ∃ cur, x.heap[k]? = some (.cells cur e (0, 0)) := by
  rcases h.2 with ⟨rfl, _⟩ | ⟨g, cap, cur, rfl, hg, hh, _⟩
  · simp [Value.ownBlock] at hk
  · simp [Value.ownBlock] at hk
    subst hk
    exact ⟨hg, cur, hh⟩
/-- blocks of other types than those that writing turns stay as they are -/
def KeepL (w w' : World) : Prop := ∀ (k : Nat) (cs : Array Value) (t : TypeId) (fr : Nat × Nat), t ≠ 90 → t ≠ 5 → t ≠ 9 → w.heap[k]? = some (.cells cs t fr) → w'.heap[k]? = some (.cells cs t fr)
theorem KeepL.refl (w : World) : KeepL w w := fun _ _ _ _ _ _ _ h => h
theorem KeepL.trans {a b c : World} (h : KeepL a b) (h' : KeepL b c) : KeepL a c := fun k cs t fr h1 h2 h3 h4 => h' k cs t fr h1 h2 h3 (h k cs t fr h1 h2 h3 h4)
theorem KeepL.below {w w' : World} (h : Below w.heap.size w w') : KeepL w w' := fun k _ _ _ _ _ _ h3 => (h.block k (Array.getElem?_eq_some_iff.1 h3).1).trans h3
theorem KeepL.ofW {w w' : World} (h : KeepW w w') : KeepL w w' := fun k cs t fr h1 h2 _ h4 => h k cs t fr h1 h2 h4
theorem KeepL.grown {x y : World} {base : Nat} {size : Nat} {v : Value} {n : Nat} {xs : List Value} (h : x.ownsRow base 9 size v n xs) (hg : x.grownBy y v.ownBlock) : KeepL x y := fun k cs t fr _ _ h3 h4 => by
  refine (hg.block k (Array.getElem?_eq_some_iff.1 h4).1 fun e => ?_).trans h4
  obtain ⟨_, cur, hc⟩ := own_type h e.symm
  rw [hc] at h4
  injection h4 with h4
  injection h4 with _ h5
  exact h3 h5.symm
theorem TSt.grow {W x y : World} {b : Nat} {T : List UInt8} {base : Nat} {size : Nat} {v : Value} {n : Nat} {xs : List Value} (h : TSt W b T x) (hown : x.ownsRow base 9 size v n xs) (hb : W.heap.size ≤ base) (hg : x.grownBy y v.ownBlock) : TSt W b T y := by
  have key : ∀ (k : Nat) (cs : Array Value) (t : TypeId) (fr : Nat × Nat), t ≠ 9 → x.heap[k]? = some (.cells cs t fr) → y.heap[k]? = some (.cells cs t fr) := fun k cs t fr h3 h4 => by
    refine (hg.block k (Array.getElem?_eq_some_iff.1 h4).1 fun e => ?_).trans h4
    obtain ⟨_, cur, hc⟩ := own_type hown e.symm
    rw [hc] at h4
    injection h4 with h4
    injection h4 with _ h5
    exact h3 h5.symm
  have at_ : ∀ p, Lib.BuilderAt 90 5 b b p (Lib.byteCells T) x → Lib.BuilderAt 90 5 b b p (Lib.byteCells T) y := fun p hp => by
    obtain ⟨hB, v', hbk, ho, hne⟩ := hp
    refine ⟨hB, v', key b _ _ _ (by decide) hbk, own_block ho (fun g hgv => ?_), hne⟩
    obtain ⟨_, cur, hc⟩ := own_type ho hgv
    rw [hc]
    exact key g _ _ _ (by decide) hc
  refine ⟨?_, Below.grown h.bel hg h.bel.size (fun k hk => Nat.le_trans hb (own_type hown hk).1), h.le, Nat.lt_of_lt_of_le h.lt hg.size⟩
  rcases h.ib with h1 | h1
  · exact Or.inl (at_ _ h1)
  · exact Or.inr (at_ _ h1)
theorem grown_more {x y w' : World} {r0 r1 : Option Nat} (h : x.grownBy y r0) (h2 : y.grownBy w' r1) (hr : ∀ j, r1 = some j → r0 = some j ∨ x.heap.size ≤ j) : x.grownBy w' r0 :=
  ⟨h2.os.trans h.os, h2.tape.trans h.tape, h2.output.trans h.output, Nat.le_trans h.size h2.size, fun k hk hne => (h2.block k (Nat.lt_of_lt_of_le hk h.size) (fun e => by
    rcases hr k e.symm with h1 | h1
    · exact hne h1.symm
    · omega)).trans (h.block k hk hne)⟩
theorem infoStr : (Tryz.prog.info? 9).map (fun i => (i.zero, i.size, i.bytes)) = some (some (.string ⟨#[]⟩), 1, 16) := by kernel_rfl
def itoaS (n : Int) : ByteArray := ⟨(Lib.itoa n).toArray⟩
/-- the bytes of a line -/
def lineBs (ws : List ByteArray) (l : List Int) : List UInt8 := Lib.join ((ws ++ l.map itoaS).map (·.data.toList)) [32] ++ [10]
set_option maxRecDepth 100000 in
set_option maxHeartbeats 8000000 in
theorem writeLine_any {W x : World} {b base : Nat} {T : List UInt8} {v : Value} {ws : List ByteArray} {A : Option Addr} {cap : Nat} {l : List Int} (st : TSt W b T x) (ht : Tabs W) (hown : x.ownsRow base 9 1 v ws.length (ws.map Value.string)) (hbase : W.heap.size ≤ base) (hbx : base ≤ x.heap.size) (hw0 : 0 < ws.length)
    (hs : SlAt x x.heap.size 1 intCells ⟨A, cap, l⟩) (hA : ∀ p, A = some p → v.ownBlock ≠ some p.block) (hl : ∀ n ∈ l, I64 n) (hlen : ws.length + l.length ≤ 1000000) (hsz : T.length + (lineBs ws l).length ≤ 140737488355328) :
    Calls Tryz.prog 50 #[.pointer (some ⟨b, 0, none⟩), v, .slice A l.length cap] x fun e w' => e = .returned (.tuple #[]) ∧ TSt W b (T ++ lineBs ws l) w' ∧ KeepL x w' := by
  obtain ⟨i8, hi8, hz8, hs8, hb8⟩ := info_parts infoStr
  have HI := hide (And.intro hi8 (And.intro hz8 (And.intro hs8 hb8)))
  have HST := hide st
  have HOWN := hide hown
  have HS := hide hs
  have HAA := hide hA
  have HL := hide hl
  have HT := hide ht
  have HSZ := hide hsz
  have hm : cap ≤ 9223372036854775807 := hs.2.1
  have hlc : l.length ≤ cap := hs.1
  clear hi8 hz8 hs8 hb8 st hown hs hA hl ht hsz
  go_enter Tryz.func50, Tryz.ntmps50
  go_wp2_with fail
  go_loopw [1, 10] (fun v1 v' wr => ∃ k : Nat, v' = .int .i64 k ∧ k ≤ l.length ∧ Hid (wr.ownsRow base 9 1 v1 (ws.length + k) ((ws ++ (l.take k).map itoaS).map Value.string)) ∧ Hid (x.grownBy wr v.ownBlock) ∧ Hid (∀ j, v1.ownBlock = some j → v.ownBlock = some j ∨ x.heap.size ≤ j)) (fun _ v _ => l.length - (intOf v).toNat)
  case atStart => exact ⟨0, rfl, Nat.zero_le _, hide (by simpa using HOWN.out), hide (World.grownBy.refl _ _), hide (fun j h => Or.inl h)⟩
  case round =>
    obtain ⟨k, rfl, hk, how, hgr, hvb⟩ := hrel
    by_cases hlt : k < l.length
    · obtain ⟨nb, no, hA, hnb, hcell⟩ := HS.out.2.2 (show 0 < l.length by omega)
      simp only at hA
      subst hA
      have hne := HAA.out ⟨nb, no, none⟩ rfl
      obtain ⟨n, hn⟩ : ∃ n, l[k]? = some n := ⟨l[k], List.getElem?_eq_getElem hlt⟩
      have hni := HL.out n (List.mem_of_getElem? hn)
      have hc := hcell k n hn 0 _ rfl
      have hcn : wr.cell? ⟨nb, no + k, none⟩ = some (.int .i64 n) := by
        refine (World.cell?_of_block (a := ⟨nb, no + k, none⟩) (hgr.out.block nb hnb (fun e => hne e.symm))).trans ?_
        simpa using hc
      have hbW : Below W.heap.size W wr := Below.grown HST.out.bel hgr.out HST.out.bel.size (fun j hj => Nat.le_trans hbase (own_type HOWN.out hj).1)
      have KI := hide (Gives.first (itoaL_any n hni wr (HT.out.below hbW)))
      have HN := hide hn
      have hsw := hgr.out.size
      clear hcell hc hn hni hbW
      go_wp2_with (first
        | (go_at_call 71; refine KI.out.mono ?_; rintro e w' ⟨rfl, z, rfl⟩)
        | (at_builtin; refine Hid.out ?_))
      refine Lib.hid ?_
      have hz := z.size
      refine wpList_append_lies _ rfl _ _ 92 rfl base 9 i8 (.string ⟨#[]⟩) 1 16 Tryz.underlying92 HI.out.1 HI.out.2.1 HI.out.2.2.1 HI.out.2.2.2 rfl (by decide) _ _ _ rfl ((own_below how.out z.below).alloc _) ⟨z.val.heap.size, 0, none⟩ 1 1 [.string (itoaS n)] rfl rfl (World.news_of_block (heap_alloc_new z.val _)) (fun u hu => by simp at hu; subst hu; rfl) (by omega) (by unfold maxLen; omega) (by omega) (by simp; omega) (z.val.heap.size + 1) (by simp) ?_
      intro g4 cap4 w4 hown4 hgr4 hg4 _
      have hx1 : x.grownBy (z.val.alloc (.cells #[.string (itoaS n)] 9 (0, 0))) v.ownBlock := grown_more hgr.out (r1 := none) (grown_of_below (z.below.alloc z.size _)) (fun j h => by cases h)
      have HG4 := hide (grown_more hx1 hgr4 hvb.out)
      have HB4 := hide (show ∀ j, (Value.slice (some ⟨g4, 0, none⟩) (ws.length + k + 1) cap4).ownBlock = some j → v.ownBlock = some j ∨ x.heap.size ≤ j from fun j hj => by
        have hj' : g4 = j := by simpa [Value.ownBlock] using hj
        subst hj'
        rcases hg4 with h5 | h5
        · exact hvb.out g4 h5
        · exact Or.inr (by omega))
      have HO4 := hide (show w4.ownsRow base 9 1 (.slice (some ⟨g4, 0, none⟩) (ws.length + k + 1) cap4) (ws.length + (k + 1)) ((ws ++ (l.take (k + 1)).map itoaS).map Value.string) by
        have e : (ws ++ (l.take (k + 1)).map itoaS).map Value.string = (ws ++ (l.take k).map itoaS).map Value.string ++ [.string (itoaS n)] := by
          rw [List.take_add_one, HN.out]
          simp
        rw [e, ← Nat.add_assoc]
        exact hown4)
      clear hown4 hgr4 hg4 hx1
      go_wp2_with fail
      exact ⟨⟨k + 1, by go_num, by omega, HO4, HG4, HB4⟩, by simp [intOf]; omega⟩
    · have hkl : k = l.length := by omega
      subst hkl
      have ho := how.out
      rw [List.take_length] at ho
      obtain ⟨zs, hzs⟩ : ∃ zs, zs = ws ++ l.map itoaS := ⟨_, rfl⟩
      have hzl : ws.length + l.length = zs.length := by rw [hzs]; simp
      rw [hzl, ← hzs] at ho
      have hst : TSt W b T wr := HST.out.grow HOWN.out hbase hgr.out
      have hkp : KeepL x wr := KeepL.grown HOWN.out hgr.out
      obtain ⟨g, gc, hu1, hgb, hgs⟩ := World.ownsRow.form ho (by omega)
      have hcells : ∀ (j : Nat) s, zs[j]? = some s → wr.cell? ⟨g, 0 + j, none⟩ = some (.string s) := fun j s hj => by
        have h9 := World.ownsRow.cells ho (show u1.ownBlock = some g by rw [hu1]; rfl) j (.string s) (by simp [hj])
        rw [Nat.zero_add]
        unfold Addr.add at h9
        split at h9
        · rename_i h0; rw [h0]; exact h9
        · simpa using h9
      have hgc : zs.length ≤ gc := by
        rw [hu1] at ho
        rcases own_cases ho with ⟨h1, _⟩ | ⟨g', cur, h1, h2, h3, h4, h5, _⟩
        · cases h1
        · exact h4
      obtain ⟨J, hJ, hJd⟩ : ∃ J : ByteArray, J = ⟨(Lib.join (zs.map (·.data.toList)) [32]).toArray⟩ ∧ J.data.toList = Lib.join (zs.map (·.data.toList)) [32] := ⟨_, rfl, rfl⟩
      have hJl : lineBs ws l = J.data.toList ++ [10] := by rw [hJd, hzs]; rfl
      have hsz := HSZ.out
      rw [hJl] at hsz
      simp only [List.length_append, List.length_singleton, Array.length_toList] at hsz
      have hJs : J.data.size = J.size := rfl
      have hJn : (J.size : Int) ≤ 140737488355327 := by omega
      have KJ := Tryz.strings_Join g 0 gc zs ⟨#[32]⟩ wr.drew hcells hgs (by omega) hgc (by
        have : (Lib.join (zs.map (·.data.toList)) (({ data := #[32] } : ByteArray).data.toList)).length = J.data.toList.length := by rw [hJd]
        rw [this, Array.length_toList]
        omega)
      rw [show (⟨(Lib.join (zs.map (·.data.toList)) (({ data := #[32] } : ByteArray).data.toList)).toArray⟩ : ByteArray) = J from hJ.symm] at KJ
      have HKJ := hide KJ
      have HSTW := hide hst
      have HKP := hide hkp
      have HJL := hide hJl
      subst hu1
      have hnb : ¬ 9223372036854775807 < J.size + 1 := by omega
      have HSZ2 := hide (show T.length + (J.size + 1) ≤ 140737488355328 by omega)
      clear KJ hst hkp hJ hJd hJl ho how hcells hvb hgr hzs hzl hJs hsz
      go_wp2_with fail
      go_region_law (first
        | (go_simp; go_at_call 72; refine HKJ.out.mono ?_; rintro e w2 ⟨rfl, hb2⟩
           have hbr : Below wr.heap.size wr w2 := (Below.refl wr.heap.size wr).drew.trans hb2
           have HS2 := hide (HSTW.out.more hbr)
           have HK2 := hide (HKP.out.trans (KeepL.below hbr))
           clear hb2 hbr)
        | (go_simp; go_at_call 64; refine (write_any HS2.out _ (by
             show T.length + (J ++ ({ data := #[10] } : ByteArray)).size ≤ _
             have e : (J ++ ({ data := #[10] } : ByteArray)).size = J.size + 1 := by rw [ByteArray.size_append]; rfl
             have := HSZ2.out
             omega)).mono ?_; rintro e w3 ⟨rfl, hst3, hk3⟩
           have HS3 := hide hst3
           have HK3 := hide (HK2.out.trans (KeepL.ofW hk3))
           clear hst3 hk3))
      all_goals
        refine ⟨rfl, .tuple #[], by simp [results, Tryz.results50], rfl, ?_, HK3.out⟩
        rw [HJL.out]
        have e : (J ++ ({ data := #[10] } : ByteArray)).data.toList = J.data.toList ++ [10] := by simp [ByteArray.data_append]
        rw [← e]
        exact HS3.out
end Go.Proofs.YtcdkhlndohokcaaGreatDoor
namespace Go.Proofs.YtcdkhlndohokcaaGreatDoor
open Go Go.Lib Go.RowKit

theorem join_words : ∀ (xs : List (List UInt8)), Lib.join xs [32] = joinW xs
  | [] => rfl
  | [a] => by simp [Lib.join, joinW]
  | a :: b :: l => by
    have h := join_words (b :: l)
    rw [joinW, ← h]
    simp [Lib.join, List.intercalate, List.intersperse]
theorem line_words (ws : List ByteArray) (l : List Int) : lineBs ws l = lineT (ws.map nameW ++ nums l) := by
  have e : (ws ++ l.map itoaS).map (fun x => x.data.toList) = (ws.map nameW ++ nums l).map wb := by
    rw [List.map_append, List.map_append, List.map_map, List.map_map]
    congr 1
    · refine List.map_congr_left fun x _ => ?_
      show x.data.toList = wb (.wd (bs x))
      rw [bs_data]; rfl
    · show l.map _ = (l.map Wd.num).map wb
      rw [List.map_map]
      exact List.map_congr_left fun x _ => rfl
  rw [lineBs, e, join_words, lineT]
end Go.Proofs.YtcdkhlndohokcaaGreatDoor
namespace Go.Proofs.YtcdkhlndohokcaaGreatDoor
open Go Go.RowKit

/-- a literal slice is an own row -/
theorem own_lit {x : World} {g base : Nat} {e : TypeId} (us : List Value) (h : x.heap[g]? = some (.cells us.toArray e (0, 0))) (hb : base ≤ g) (hn : us.length ≤ 1000) : x.ownsRow base e 1 (.slice (some ⟨g, 0, none⟩) us.length us.length) us.length us := by
  refine ⟨by simp, Or.inr ⟨g, us.length, us.toArray, rfl, hb, h, Nat.le_refl _, by unfold maxLen; omega, by simp, by simp⟩⟩
theorem slAt_nil' {α : Type} {w : World} {B size : Nat} {cells : α → List Value} : SlAt w B size cells ⟨none, 0, []⟩ := ⟨Nat.le_refl _, Nat.zero_le _, fun h => absurd h (by simp)⟩
def LinePost (W : World) (b : Nat) (T : List UInt8) (ws : List Wd) (x : World) (e : Ending) (w' : World) : Prop := e = .returned (.tuple #[]) ∧ TSt W b (T ++ lineT ws) w' ∧ KeepL x w'
theorem lit_line {W x : World} {b : Nat} {T : List UInt8} (st : TSt W b T x) (ht : Tabs W) (ws : List ByteArray) (l : List Int) (hw0 : 0 < ws.length) (hw : ws.length ≤ 1000) (hl : ∀ n ∈ l, I64 n) (hln : l.length ≤ 1000) (hsz : T.length + (lineT (ws.map nameW ++ nums l)).length ≤ 140737488355328) :
    Calls Tryz.prog 50 #[.pointer (some ⟨b, 0, none⟩), .slice (some ⟨x.heap.size, 0, none⟩) ws.length ws.length, .slice (some ⟨x.heap.size + 1, 0, none⟩) l.length l.length] ((x.alloc (.cells (ws.map Value.string).toArray 9 (0, 0))).alloc (.cells (l.map (Value.int .i64)).toArray 3 (0, 0))) (LinePost W b T (ws.map nameW ++ nums l) x) := by
  obtain ⟨V1, hV1, hs1, hb1, hh1⟩ := boxed x (.cells (ws.map Value.string).toArray 9 (0, 0))
  obtain ⟨V2, hV2, hs2, hb2, hh2⟩ := boxed V1 (.cells (l.map (Value.int .i64)).toArray 3 (0, 0))
  rw [← hV1, ← hV2]
  rw [hs1] at hs2 hb2 hh2
  have hxV : Below x.heap.size x V2 := hb1.trans (hb2.mono (by omega))
  have hg : V2.heap[x.heap.size]? = some (.cells (ws.map Value.string).toArray 9 (0, 0)) := (hb2.block _ (by omega)).trans hh1
  have hW := st.bel.size
  have hown := own_lit (base := W.heap.size) (ws.map Value.string) hg hW (by simpa using hw)
  rw [List.length_map] at hown
  refine (writeLine_any (base := W.heap.size) (st.more hxV) ht hown (Nat.le_refl _) (by omega) hw0 (ints_at l hln hh2) (fun p hp => by
    have hp' := Option.some.inj hp
    subst hp'
    simp [Value.ownBlock]) hl (by omega) (by rw [line_words]; exact hsz)).mono ?_
  rintro e w' ⟨h1, h2, h3⟩
  rw [line_words] at h2
  exact ⟨h1, h2, (KeepL.below hxV).trans h3⟩
/-- the same with no numbers -/
theorem lit_line0 {W x : World} {b : Nat} {T : List UInt8} (st : TSt W b T x) (ht : Tabs W) (ws : List ByteArray) (hw0 : 0 < ws.length) (hw : ws.length ≤ 1000) (hsz : T.length + (lineT (ws.map nameW)).length ≤ 140737488355328) :
    Calls Tryz.prog 50 #[.pointer (some ⟨b, 0, none⟩), .slice (some ⟨x.heap.size, 0, none⟩) ws.length ws.length, .slice none 0 0] (x.alloc (.cells (ws.map Value.string).toArray 9 (0, 0))) (LinePost W b T (ws.map nameW) x) := by
  obtain ⟨V1, hV1, hs1, hb1, hh1⟩ := boxed x (.cells (ws.map Value.string).toArray 9 (0, 0))
  rw [← hV1]
  have hW := st.bel.size
  have hown := own_lit (base := W.heap.size) (ws.map Value.string) hh1 hW (by simpa using hw)
  rw [List.length_map] at hown
  have hlw := line_words ws []
  simp only [nums, List.map_nil, List.append_nil] at hlw
  refine (writeLine_any (base := W.heap.size) (A := none) (cap := 0) (l := []) (st.more hb1) ht hown (Nat.le_refl _) (by omega) hw0 slAt_nil' (fun p hp => by cases hp) (fun n hn => by cases hn) (by simp; omega) (by rw [hlw]; exact hsz)).mono ?_
  rintro e w' ⟨h1, h2, h3⟩
  rw [hlw] at h2
  exact ⟨h1, h2, (KeepL.below hb1).trans h3⟩
end Go.Proofs.YtcdkhlndohokcaaGreatDoor
namespace Go.Proofs.YtcdkhlndohokcaaGreatDoor
open Go Go.RowKit

theorem nameW_House : nameW (⟨#[104, 111, 117, 115, 101]⟩ : ByteArray) = .wd wHouse := by
  have e : bs (⟨#[104, 111, 117, 115, 101]⟩ : ByteArray) = wHouse := by kernel_rfl
  rw [nameW, e]
theorem nameW_Roof : nameW (⟨#[114, 111, 111, 102]⟩ : ByteArray) = .wd wRoof := by
  have e : bs (⟨#[114, 111, 111, 102]⟩ : ByteArray) = wRoof := by kernel_rfl
  rw [nameW, e]
theorem nameW_Item : nameW (⟨#[105, 116, 101, 109]⟩ : ByteArray) = .wd wItem := by
  have e : bs (⟨#[105, 116, 101, 109]⟩ : ByteArray) = wItem := by kernel_rfl
  rw [nameW, e]
theorem nameW_Brick : nameW (⟨#[98, 114, 105, 99, 107]⟩ : ByteArray) = .wd wBrick := by
  have e : bs (⟨#[98, 114, 105, 99, 107]⟩ : ByteArray) = wBrick := by kernel_rfl
  rw [nameW, e]
theorem nameW_Move : nameW (⟨#[109, 111, 118, 101]⟩ : ByteArray) = .wd wMove := by
  have e : bs (⟨#[109, 111, 118, 101]⟩ : ByteArray) = wMove := by kernel_rfl
  rw [nameW, e]
theorem nameW_Apart : nameW (⟨#[97, 112, 97, 114, 116]⟩ : ByteArray) = .wd wApart := by
  have e : bs (⟨#[97, 112, 97, 114, 116]⟩ : ByteArray) = wApart := by kernel_rfl
  rw [nameW, e]
theorem nameW_Set : nameW (⟨#[115, 101, 116]⟩ : ByteArray) = .wd wSet := by
  have e : bs (⟨#[115, 101, 116]⟩ : ByteArray) = wSet := by kernel_rfl
  rw [nameW, e]
theorem nameW_Cue : nameW (⟨#[99, 117, 101]⟩ : ByteArray) = .wd wCue := by
  have e : bs (⟨#[99, 117, 101]⟩ : ByteArray) = wCue := by kernel_rfl
  rw [nameW, e]
theorem lineHouse_any {W x : World} {b : Nat} {T R : List UInt8} {D : Nat} (st : TSt W b T x) (ht : Tabs W) (h : HouseP) (h0 : I64 (h.height)) (hD : D ≤ 140737488355328) (hsz : (T ++ (lineT (houseLn h) ++ R)).length = D) :
    Calls Tryz.prog 50 #[.pointer (some ⟨b, 0, none⟩), .slice (some ⟨x.heap.size, 0, none⟩) 2 2, .slice (some ⟨x.heap.size + 1, 0, none⟩) 1 1] ((x.alloc (.cells #[.string ⟨#[104, 111, 117, 115, 101]⟩, .string h.name] 9 (0, 0))).alloc (.cells #[.int .i64 h.height] 3 (0, 0))) (LinePost W b T (houseLn h) x) := by
  have e : ([⟨#[104, 111, 117, 115, 101]⟩, h.name] : List ByteArray).map nameW ++ nums [h.height] = houseLn h := by
    rw [List.map_cons, nameW_House]; rfl
  have K := lit_line st ht [⟨#[104, 111, 117, 115, 101]⟩, h.name] [h.height] (by simp) (by simp) (fun n hn => by
    simp only [List.mem_cons, List.not_mem_nil, or_false] at hn
    rcases hn with rfl
    all_goals assumption) (by simp) (by
    rw [e]
    simp only [List.length_append] at hsz ⊢
    omega)
  rw [e] at K
  exact K
theorem lineRoof_any {W x : World} {b : Nat} {T R : List UInt8} {D : Nat} (st : TSt W b T x) (ht : Tabs W) (r : RoofD) (h0 : I64 (r.fro)) (h1 : I64 (r.til)) (h2 : I64 (r.most)) (hD : D ≤ 140737488355328) (hsz : (T ++ (lineT (roofLn r) ++ R)).length = D) :
    Calls Tryz.prog 50 #[.pointer (some ⟨b, 0, none⟩), .slice (some ⟨x.heap.size, 0, none⟩) 2 2, .slice (some ⟨x.heap.size + 1, 0, none⟩) 3 3] ((x.alloc (.cells #[.string ⟨#[114, 111, 111, 102]⟩, .string r.name] 9 (0, 0))).alloc (.cells #[.int .i64 r.fro, .int .i64 r.til, .int .i64 r.most] 3 (0, 0))) (LinePost W b T (roofLn r) x) := by
  have e : ([⟨#[114, 111, 111, 102]⟩, r.name] : List ByteArray).map nameW ++ nums [r.fro, r.til, r.most] = roofLn r := by
    rw [List.map_cons, nameW_Roof]; rfl
  have K := lit_line st ht [⟨#[114, 111, 111, 102]⟩, r.name] [r.fro, r.til, r.most] (by simp) (by simp) (fun n hn => by
    simp only [List.mem_cons, List.not_mem_nil, or_false] at hn
    rcases hn with rfl | rfl | rfl
    all_goals assumption) (by simp) (by
    rw [e]
    simp only [List.length_append] at hsz ⊢
    omega)
  rw [e] at K
  exact K
theorem lineItem_any {W x : World} {b : Nat} {T R : List UInt8} {D : Nat} (st : TSt W b T x) (ht : Tabs W) (i : ItemD) (h0 : I64 (i.place)) (h1 : I64 (i.width)) (h2 : I64 (i.weight)) (h3 : I64 (i.hang)) (h4 : I64 (i.front)) (h5 : I64 (i.back)) (hD : D ≤ 140737488355328) (hsz : (T ++ (lineT (itemLn i) ++ R)).length = D) :
    Calls Tryz.prog 50 #[.pointer (some ⟨b, 0, none⟩), .slice (some ⟨x.heap.size, 0, none⟩) 2 2, .slice (some ⟨x.heap.size + 1, 0, none⟩) 6 6] ((x.alloc (.cells #[.string ⟨#[105, 116, 101, 109]⟩, .string i.name] 9 (0, 0))).alloc (.cells #[.int .i64 i.place, .int .i64 i.width, .int .i64 i.weight, .int .i64 i.hang, .int .i64 i.front, .int .i64 i.back] 3 (0, 0))) (LinePost W b T (itemLn i) x) := by
  have e : ([⟨#[105, 116, 101, 109]⟩, i.name] : List ByteArray).map nameW ++ nums [i.place, i.width, i.weight, i.hang, i.front, i.back] = itemLn i := by
    rw [List.map_cons, nameW_Item]; rfl
  have K := lit_line st ht [⟨#[105, 116, 101, 109]⟩, i.name] [i.place, i.width, i.weight, i.hang, i.front, i.back] (by simp) (by simp) (fun n hn => by
    simp only [List.mem_cons, List.not_mem_nil, or_false] at hn
    rcases hn with rfl | rfl | rfl | rfl | rfl | rfl
    all_goals assumption) (by simp) (by
    rw [e]
    simp only [List.length_append] at hsz ⊢
    omega)
  rw [e] at K
  exact K
theorem lineBrick_any {W x : World} {b : Nat} {T R : List UInt8} {D : Nat} (st : TSt W b T x) (ht : Tabs W) (i : BrickD) (h0 : I64 (i.weight)) (h1 : I64 (i.count)) (hD : D ≤ 140737488355328) (hsz : (T ++ (lineT (brickLn i) ++ R)).length = D) :
    Calls Tryz.prog 50 #[.pointer (some ⟨b, 0, none⟩), .slice (some ⟨x.heap.size, 0, none⟩) 2 2, .slice (some ⟨x.heap.size + 1, 0, none⟩) 2 2] ((x.alloc (.cells #[.string ⟨#[98, 114, 105, 99, 107]⟩, .string i.name] 9 (0, 0))).alloc (.cells #[.int .i64 i.weight, .int .i64 i.count] 3 (0, 0))) (LinePost W b T (brickLn i) x) := by
  have e : ([⟨#[98, 114, 105, 99, 107]⟩, i.name] : List ByteArray).map nameW ++ nums [i.weight, i.count] = brickLn i := by
    rw [List.map_cons, nameW_Brick]; rfl
  have K := lit_line st ht [⟨#[98, 114, 105, 99, 107]⟩, i.name] [i.weight, i.count] (by simp) (by simp) (fun n hn => by
    simp only [List.mem_cons, List.not_mem_nil, or_false] at hn
    rcases hn with rfl | rfl
    all_goals assumption) (by simp) (by
    rw [e]
    simp only [List.length_append] at hsz ⊢
    omega)
  rw [e] at K
  exact K
theorem lineMove_any {W x : World} {b : Nat} {T R : List UInt8} {D : Nat} (st : TSt W b T x) (ht : Tabs W) (m : MoveD) (h0 : I64 (m.to)) (h1 : I64 (m.speed)) (h2 : I64 (m.rise)) (h3 : I64 (m.fall)) (hD : D ≤ 140737488355328) (hsz : (T ++ (lineT (moveLn m) ++ R)).length = D) :
    Calls Tryz.prog 50 #[.pointer (some ⟨b, 0, none⟩), .slice (some ⟨x.heap.size, 0, none⟩) 2 2, .slice (some ⟨x.heap.size + 1, 0, none⟩) 4 4] ((x.alloc (.cells #[.string ⟨#[109, 111, 118, 101]⟩, .string m.set] 9 (0, 0))).alloc (.cells #[.int .i64 m.to, .int .i64 m.speed, .int .i64 m.rise, .int .i64 m.fall] 3 (0, 0))) (LinePost W b T (moveLn m) x) := by
  have e : ([⟨#[109, 111, 118, 101]⟩, m.set] : List ByteArray).map nameW ++ nums [m.to, m.speed, m.rise, m.fall] = moveLn m := by
    rw [List.map_cons, nameW_Move]; rfl
  have K := lit_line st ht [⟨#[109, 111, 118, 101]⟩, m.set] [m.to, m.speed, m.rise, m.fall] (by simp) (by simp) (fun n hn => by
    simp only [List.mem_cons, List.not_mem_nil, or_false] at hn
    rcases hn with rfl | rfl | rfl | rfl
    all_goals assumption) (by simp) (by
    rw [e]
    simp only [List.length_append] at hsz ⊢
    omega)
  rw [e] at K
  exact K
theorem lineApart_any {W x : World} {b : Nat} {T R : List UInt8} {D : Nat} (st : TSt W b T x) (ht : Tabs W) (p : ByteArray × ByteArray)  (hD : D ≤ 140737488355328) (hsz : (T ++ (lineT (apartLn p) ++ R)).length = D) :
    Calls Tryz.prog 50 #[.pointer (some ⟨b, 0, none⟩), .slice (some ⟨x.heap.size, 0, none⟩) 3 3, .slice none 0 0] (x.alloc (.cells #[.string ⟨#[97, 112, 97, 114, 116]⟩, .string p.1, .string p.2] 9 (0, 0))) (LinePost W b T (apartLn p) x) := by
  have e : ([⟨#[97, 112, 97, 114, 116]⟩, p.1, p.2] : List ByteArray).map nameW = apartLn p := by
    rw [List.map_cons, nameW_Apart]; rfl
  have K := lit_line0 st ht [⟨#[97, 112, 97, 114, 116]⟩, p.1, p.2] (by simp) (by simp) (by
    rw [e]
    simp only [List.length_append] at hsz ⊢
    omega)
  rw [e] at K
  exact K
end Go.Proofs.YtcdkhlndohokcaaGreatDoor
namespace Go.Proofs.YtcdkhlndohokcaaGreatDoor
open Go Go.RowKit

theorem row_line {W x : World} {b base : Nat} {T : List UInt8} {v : Value} (st : TSt W b T x) (ht : Tabs W) (ws : List ByteArray) (l : List Int) (hown : x.ownsRow base 9 1 v ws.length (ws.map Value.string)) (hbase : W.heap.size ≤ base) (hbx : base ≤ x.heap.size) (hw0 : 0 < ws.length) (hw : ws.length ≤ 1000) (hl : ∀ n ∈ l, I64 n) (hln : l.length ≤ 1000) (hsz : T.length + (lineT (ws.map nameW ++ nums l)).length ≤ 140737488355328) :
    Calls Tryz.prog 50 #[.pointer (some ⟨b, 0, none⟩), v, .slice (some ⟨x.heap.size, 0, none⟩) l.length l.length] (x.alloc (.cells (l.map (Value.int .i64)).toArray 3 (0, 0))) (LinePost W b T (ws.map nameW ++ nums l) x) := by
  obtain ⟨V, hV, hVs, hVb, hVh⟩ := boxed x (.cells (l.map (Value.int .i64)).toArray 3 (0, 0))
  rw [← hV]
  refine (writeLine_any (base := base) (st.more hVb) ht (own_below hown hVb) hbase (by omega) hw0 (ints_at l hln hVh) (fun p hp hk => by
    have hp' := Option.some.inj hp
    subst hp'
    have := (World.ownsRow.lt hown _ hk).2
    simp only at this
    omega) hl (by omega) (by rw [line_words]; exact hsz)).mono ?_
  rintro e w' ⟨h1, h2, h3⟩
  rw [line_words] at h2
  exact ⟨h1, h2, (KeepL.below hVb).trans h3⟩
def wdManual : ByteArray := ⟨#[109, 97, 110, 117, 97, 108]⟩
def wdFollow : ByteArray := ⟨#[102, 111, 108, 108, 111, 119]⟩
def wdWith : ByteArray := ⟨#[119, 105, 116, 104]⟩
theorem nameW_Manual : nameW wdManual = .wd wManual := by
  have e : bs wdManual = wManual := by kernel_rfl
  rw [nameW, e]
theorem nameW_Follow : nameW wdFollow = .wd wFollow := by
  have e : bs wdFollow = wFollow := by kernel_rfl
  rw [nameW, e]
theorem nameW_With : nameW wdWith = .wd wWith := by
  have e : bs wdWith = wWith := by kernel_rfl
  rw [nameW, e]
/-- the words behind the name of a cue -/
def linkB (link : Int) (after : ByteArray) : List ByteArray := if link = 1 then [wdManual] else if link = 2 then [wdFollow, after] else [wdWith, after]
theorem cue_words (q : CueP) : ([(⟨#[99, 117, 101]⟩ : ByteArray), q.name] ++ linkB q.link q.after).map nameW ++ nums [q.delay, q.crew, q.power] = cueLn q := by
  rw [List.map_append, List.map_cons, nameW_Cue]
  unfold cueLn linkB linkW
  split
  · simp [nameW_Manual]
  · split
    · simp [nameW_Follow]
    · simp [nameW_With]
end Go.Proofs.YtcdkhlndohokcaaGreatDoor
namespace Go.Proofs.YtcdkhlndohokcaaGreatDoor
open Go.RowKit

theorem TSt.buf {W x : World} {b : Nat} {T : List UInt8} (st : TSt W b T x) : ∃ p A cap, x.heap[b]? = some (.cells #[p, .slice A T.length cap] 90 (0, 0)) ∧ x.ownsRow b 5 1 (.slice A T.length cap) T.length (Lib.byteCells T) := by
  have key : ∀ p, Lib.BuilderAt 90 5 b b p (Lib.byteCells T) x → ∃ p A cap, x.heap[b]? = some (.cells #[p, .slice A T.length cap] 90 (0, 0)) ∧ x.ownsRow b 5 1 (.slice A T.length cap) T.length (Lib.byteCells T) := fun p h => by
    obtain ⟨hB, v, hbk, hown, hne⟩ := h
    rw [Lib.byteCells_length] at hown
    rcases hown.2 with ⟨hv, h0⟩ | ⟨g, cap, cur, hv, r⟩
    · rw [hv] at hbk hown
      refine ⟨p, none, 0, ?_, ?_⟩
      · rw [h0]; exact hbk
      · have h := hown
        rw [h0] at h ⊢
        exact h
    · rw [hv] at hbk hown
      exact ⟨p, _, cap, hbk, hown⟩
  rcases st.ib with h | h
  · exact key _ h
  · exact key _ h
set_option maxHeartbeats 1000000 in
theorem lenW_any {W x : World} {b : Nat} {T : List UInt8} (st : TSt W b T x) : Calls Tryz.prog 51 #[.pointer (some ⟨b, 0, none⟩)] x (Gives x (.int .i64 T.length)) := by
  obtain ⟨p, A, cap, hb, _⟩ := st.buf
  have c1 : x.cell? ⟨b, 1, none⟩ = some (.slice A T.length cap) := (Joins.cell_of_block hb 1).trans rfl
  go_enter Tryz.func51, Tryz.ntmps51
  go_wp2
  go_ret
  exact Gives.mk rfl (Below.refl _ _)
set_option maxHeartbeats 4000000 in
set_option maxRecDepth 100000 in
theorem stringW_any {W x : World} {b : Nat} {T : List UInt8} (st : TSt W b T x) (h0 : T ≠ []) : Calls Tryz.prog 52 #[.pointer (some ⟨b, 0, none⟩)] x fun e w' => e = .returned (.string ⟨T.toArray⟩) ∧ Below b x w' := by
  obtain ⟨p, A, cap0, hbk, hown⟩ := st.buf
  have hl0 : T.length ≠ 0 := by simpa using h0
  obtain ⟨g, cap, cur, hv, hbg, hg, hnc, hcm, hcs, htake⟩ : ∃ g cap cur, Value.slice A T.length cap0 = .slice (some ⟨g, 0, none⟩) T.length cap ∧ b ≤ g ∧ x.heap[g]? = some (.cells cur 5 (0, 0)) ∧ T.length ≤ cap ∧ cap ≤ maxLen ∧ cur.size = cap * 1 ∧ cur.toList.take (T.length * 1) = Lib.byteCells T := by
    rcases hown.2 with ⟨_, hz⟩ | ⟨g, cap, cur, hv, r⟩
    · exact absurd hz hl0
    · exact ⟨g, cap, cur, hv, r⟩
  rw [hv] at hbk hown
  have c1 : x.drew.cell? ⟨b, 1, none⟩ = some (.slice (some ⟨g, 0, none⟩) T.length cap) := by
    have : x.drew.heap[b]? = some (.cells #[p, .slice (some ⟨g, 0, none⟩) T.length cap] 90 (0, 0)) := hbk
    rw [Lib.cell_of_heap this]; rfl
  have hSD : (Builtin.unsafeSliceData_ #[86] 126 #[.slice (some ⟨g, 0, none⟩) T.length cap]).run Tryz.prog x.drew = .ok (.pointer (some ⟨g, 0, none⟩)) x.drew :=
    Lib.run_unsafeSliceData_row _ _ _ _ _ _ (by omega)
  have hUS : (Builtin.unsafeString_ #[126, 3] 9 #[.pointer (some ⟨g, 0, none⟩), .int .i64 T.length]).run Tryz.prog x.drew = .ok (.string ⟨T.toArray⟩) (x.drew.freeze ⟨g, 0, none⟩ T.length) := by
    refine Lib.run_unsafeString_row x.drew 126 3 9 5 Tryz.underlying126 (by kernel_rfl) g cur.size (by have hg' : x.drew.heap[g]? = some (.cells cur 5 (0, 0)) := hg; simp [World.shape?, hg']) T h0 (by omega) (by unfold maxLen at hcm; omega) ?_
    intro j y hy
    have := hown.cells (g := g) rfl j (.int .u8 y.toNat) (by simp [Lib.byteCells, hy])
    exact this
  go_enter Tryz.func52, Tryz.ntmps52
  go_wp2
  go_region
  all_goals
    go_wp2
    go_ret
    exact ⟨rfl, Lib.below_freeze (Below.drew (Below.refl b x)) (p := ⟨g, 0, none⟩) hbg _⟩
end Go.Proofs.YtcdkhlndohokcaaGreatDoor
namespace Go.Proofs.YtcdkhlndohokcaaGreatDoor
open Go.RowKit

theorem lines_two {h : HouseD} (hv : houseOk h = true) : ∀ s ∈ h.sets.l, 2 ≤ s.lines.l.length ∧ s.lines.l.length ≤ 10 := by
  intro s hs
  rw [houseOk, Bool.and_eq_true] at hv
  obtain ⟨j, hj, e⟩ := List.getElem_of_mem hs
  have h1 := allIdx_iff.1 hv.2 j s (by rw [List.getElem?_eq_getElem hj, e])
  simp only [setAt, setOk, linesOk, betweenB, Bool.and_eq_true, decide_eq_true_eq] at h1
  omega
end Go.Proofs.YtcdkhlndohokcaaGreatDoor
namespace Go.Proofs.YtcdkhlndohokcaaGreatDoor
open Go Go.RowKit

theorem ints_flat : ∀ l : List Int, l.flatMap intCells = l.map (Value.int .i64)
  | [] => rfl
  | x :: l => by rw [List.flatMap_cons, ints_flat l]; rfl
theorem rows_line {W x : World} {b base base2 : Nat} {T : List UInt8} {v : Value} {A : Option Addr} {cap : Nat} (st : TSt W b T x) (ht : Tabs W) (ws : List ByteArray) (l : List Int) (hown : x.ownsRow base 9 1 v ws.length (ws.map Value.string)) (hbase : W.heap.size ≤ base) (hbx : base ≤ x.heap.size) (hw0 : 0 < ws.length) (hw : ws.length ≤ 1000) (hown2 : x.ownsRow base2 3 1 (.slice A l.length cap) l.length (l.map (Value.int .i64))) (hl : ∀ n ∈ l, I64 n) (hln : l.length ≤ 1000) (hsz : T.length + (lineT (ws.map nameW ++ nums l)).length ≤ 140737488355328) :
    Calls Tryz.prog 50 #[.pointer (some ⟨b, 0, none⟩), v, .slice A l.length cap] x (LinePost W b T (ws.map nameW ++ nums l) x) := by
  refine (writeLine_any st ht hown hbase hbx hw0 (slAt_own (s := ⟨A, cap, l⟩) (cells := intCells) (e := 3) (base := base2) (fun _ => rfl) (by rw [ints_flat]; exact hown2)) (fun p hp hk => ?_) hl (by omega) (by rw [line_words]; exact hsz)).mono ?_
  · obtain ⟨_, cur, hc⟩ := own_type hown hk
    subst hp
    have hA : (Value.slice (some p) l.length cap).ownBlock = some p.block := by
      rcases hown2.2 with ⟨h, _⟩ | ⟨g, c, cur2, h, _⟩
      · cases h
      · simp only [Value.slice.injEq, Option.some.injEq] at h
        rw [h.1]; simp [Value.ownBlock]
    obtain ⟨_, cur2, hc2⟩ := own_type hown2 hA
    rw [hc] at hc2
    simp at hc2
  · rintro e w' ⟨h1, h2, h3⟩
    rw [line_words] at h2
    exact ⟨h1, h2, h3⟩
/-- what stays when a row of ints grows -/
theorem ints_grow {x y : World} {base : Nat} {size : Nat} {v : Value} {n : Nat} {xs : List Value} (hown : x.ownsRow base 3 size v n xs) (hg : x.grownBy y v.ownBlock) (k : Nat) (cs : Array Value) (t : TypeId) (fr : Nat × Nat) (h3 : t ≠ 3) (h4 : x.heap[k]? = some (.cells cs t fr)) : y.heap[k]? = some (.cells cs t fr) := by
  refine (hg.block k (Array.getElem?_eq_some_iff.1 h4).1 fun e => ?_).trans h4
  obtain ⟨_, cur, hc⟩ := own_type hown e.symm
  rw [hc] at h4
  injection h4 with h4
  injection h4 with _ h5
  exact h3 h5.symm
theorem TSt.growI {W x y : World} {b : Nat} {T : List UInt8} {base : Nat} {size : Nat} {v : Value} {n : Nat} {xs : List Value} (h : TSt W b T x) (hown : x.ownsRow base 3 size v n xs) (hb : W.heap.size ≤ base) (hg : x.grownBy y v.ownBlock) : TSt W b T y := by
  have key := ints_grow hown hg
  have at_ : ∀ p, Lib.BuilderAt 90 5 b b p (Lib.byteCells T) x → Lib.BuilderAt 90 5 b b p (Lib.byteCells T) y := fun p hp => by
    obtain ⟨hB, v', hbk, ho, hne⟩ := hp
    refine ⟨hB, v', key b _ _ _ (by decide) hbk, own_block ho (fun g hgv => ?_), hne⟩
    obtain ⟨_, cur, hc⟩ := own_type ho hgv
    rw [hc]
    exact key g _ _ _ (by decide) hc
  refine ⟨?_, Below.grown h.bel hg h.bel.size (fun k hk => Nat.le_trans hb (own_type hown hk).1), h.le, Nat.lt_of_lt_of_le h.lt hg.size⟩
  rcases h.ib with h1 | h1
  · exact Or.inl (at_ _ h1)
  · exact Or.inr (at_ _ h1)
theorem lines_news {w : World} {B cap : Nat} {a : Addr} {l : List Int} (h : SlAt w B 1 intCells ⟨some a, cap, l⟩) : ∀ q u, (l.map (Value.int .i64))[q]? = some u → w.cell? (a.add q) = some u := fun q u hq => by
  rw [List.getElem?_map] at hq
  obtain ⟨x, hx, rfl⟩ := Option.map_eq_some_iff.1 hq
  have h0 : 0 < l.length := Nat.lt_of_le_of_lt (Nat.zero_le _) (List.getElem?_eq_some_iff.1 hx).1
  obtain ⟨b, off, e, _, hc⟩ := h.2.2 h0
  injection e with e
  subst e
  have h2 := hc q x hx 0 _ rfl
  rw [show (⟨b, off, none⟩ : Addr).add q = ⟨b, off + (q * 1 + 0), none⟩ by unfold Addr.add; split <;> simp_all]
  exact h2
theorem set_ready {W x y : World} {b : Nat} {T : List UInt8} {v vn : Value} {n m : Nat} {us xs : List Value} (st : TSt W b T x) (hw : x.ownsRow W.heap.size 9 1 v n us) (hown : x.ownsRow W.heap.size 3 1 vn m xs) (hg : x.grownBy y vn.ownBlock) : TSt W b T y ∧ y.ownsRow W.heap.size 9 1 v n us :=
  ⟨st.growI hown (Nat.le_refl _) hg, own_block hw (fun g hgv => by
    obtain ⟨_, cur, hc⟩ := own_type hw hgv
    rw [hc]
    exact ints_grow hown hg g _ _ _ (by decide) hc)⟩
theorem infoInt : (Tryz.prog.info? 3).map (fun i => (i.zero, i.size, i.bytes)) = some (some (.int .i64 0), 1, 8) := by kernel_rfl
theorem set_words (s : SetP) : [(⟨#[115, 101, 116]⟩ : ByteArray), s.name].map nameW ++ nums ([s.depth, s.low, s.high, s.length, s.pipe, s.arbor, s.purchase, s.most, s.brake] ++ s.lines) = setLn s := by
  rw [List.map_cons, nameW_Set]; rfl
end Go.Proofs.YtcdkhlndohokcaaGreatDoor
