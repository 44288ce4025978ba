/- The closure that read defers: it takes a panic of the reader for the place of a token. read: its states, its door, and its methods as it sees them. read: the tokens of a text, and what they say. -/
import Derived.Test.YtnjbfhfjdhfdlaaGreatDoorSrcLineR
import Derived.Test.YtnjbfhfjdhfdlaaGreatDoorSrcToks
import Derived.Recover
namespace Go.Proofs.YtnjbfhfjdhfdlaaGreatDoor
open Go.RowKit

/-- the three variables of read's results -/
structure Res3 (b : Nat) (p l c e : Value) (w : World) : Prop where
  r : w.heap[b]? = some (.cells #[p] 95 (0, 0))
  at_ : w.heap[b + 1]? = some (.cells #[l, c] 40 (0, 0))
  e : w.heap[b + 2]? = some (.cells #[e] 32 (0, 0))
theorem Res3.kept {b B : Nat} {p l c e : Value} {w y : World} (h : Res3 b p l c e w) (hb : Below B w y) (hB : b + 2 < B) : Res3 b p l c e y :=
  ⟨(hb.block _ (by omega)).trans h.r, (hb.block _ (by omega)).trans h.at_, (hb.block _ (by omega)).trans h.e⟩
section
variable {b : Nat} {p l c e : Value} {w : World}
theorem Res3.setR (h : Res3 b p l c e w) (v : Value) : Res3 b v l c e (w.setCell ⟨b, 0, none⟩ v) :=
  ⟨block_set h.r v, (Below.heap_setCell _ _ _ _ (by simp only; omega)).trans h.at_, (Below.heap_setCell _ _ _ _ (by simp only; omega)).trans h.e⟩
theorem Res3.setL (h : Res3 b p l c e w) (v : Value) : Res3 b p v c e (w.setCell ⟨b + 1, 0, none⟩ v) :=
  ⟨(Below.heap_setCell _ _ _ _ (by simp only; omega)).trans h.r, block_set h.at_ v, (Below.heap_setCell _ _ _ _ (by simp only; omega)).trans h.e⟩
theorem Res3.setC (h : Res3 b p l c e w) (v : Value) : Res3 b p l v e (w.setCell ⟨b + 1, 1, none⟩ v) :=
  ⟨(Below.heap_setCell _ _ _ _ (by simp only; omega)).trans h.r, block_set h.at_ v, (Below.heap_setCell _ _ _ _ (by simp only; omega)).trans h.e⟩
theorem Res3.setE (h : Res3 b p l c e w) (v : Value) : Res3 b p l c v (w.setCell ⟨b + 2, 0, none⟩ v) :=
  ⟨(Below.heap_setCell _ _ _ _ (by simp only; omega)).trans h.r, (Below.heap_setCell _ _ _ _ (by simp only; omega)).trans h.at_, block_set h.e v⟩
theorem Res3.cells (h : Res3 b p l c e w) : (w.cell? ⟨b, 0, none⟩ = some p ∧ w.cell? ⟨b + 1, 0, none⟩ = some l ∧ w.cell? ⟨b + 1, 1, none⟩ = some c ∧ w.cell? ⟨b + 2, 0, none⟩ = some e) ∧ (w.frozen? ⟨b, 0, none⟩ = false ∧ w.frozen? ⟨b + 1, 0, none⟩ = false ∧ w.frozen? ⟨b + 1, 1, none⟩ = false ∧ w.frozen? ⟨b + 2, 0, none⟩ = false) :=
  ⟨⟨(Joins.cell_of_block h.r 0).trans rfl, (Joins.cell_of_block h.at_ 0).trans rfl, (Joins.cell_of_block h.at_ 1).trans rfl, (Joins.cell_of_block h.e 0).trans rfl⟩, block_unfrozen h.r 0, block_unfrozen h.at_ 0, block_unfrozen h.at_ 1, block_unfrozen h.e 0⟩
end
set_option maxRecDepth 100000 in
set_option maxHeartbeats 4000000 in
theorem catch_any (b : Nat) (p l c e0 : Value) (x y : Int) (w : World) (h : Res3 b p l c e0 w) :
    CallsD Tryz.prog 82 #[.pointer (some ⟨b, 0, none⟩), .pointer (some ⟨b + 1, 0, none⟩), .pointer (some ⟨b + 2, 0, none⟩)] (.panicking [{ v := .iface 131 (.agg #[.int .i64 x, .int .i64 y]), recovered := false }]) w fun e u' w' =>
      e = .returned (.tuple #[]) ∧ u' = .panicking [{ v := .iface 131 (.agg #[.int .i64 x, .int .i64 y]), recovered := true }] ∧ Below b w w' ∧ Res3 b (.pointer none) (.int .i64 x) (.int .i64 y) (.int .i64 7) w' := by
  have HH := hide h
  have hta : ∀ w : World, (Instr.typeAssert (.iface 131 (.agg #[.int .i64 x, .int .i64 y])) 20 131 true).run Tryz.prog w = .ok (.tuple #[.agg #[.int .i64 x, .int .i64 y], .bool true]) w := fun w => by kernel_rfl
  refine callsD_of_wpS Tryz.func82 rfl fun c₀ cs hu => ?_
  rw [show (#[Value.pointer (some ⟨b, 0, none⟩), .pointer (some ⟨b + 1, 0, none⟩), .pointer (some ⟨b + 2, 0, none⟩)] : Array Value) ++ Array.replicate (Tryz.f82.ntmps - (#[Value.pointer (some ⟨b, 0, none⟩), .pointer (some ⟨b + 1, 0, none⟩), .pointer (some ⟨b + 2, 0, none⟩)] : Array Value).size) undef = #[.pointer (some ⟨b, 0, none⟩), .pointer (some ⟨b + 1, 0, none⟩), .pointer (some ⟨b + 2, 0, none⟩), undef, undef, undef, undef, undef, undef, undef, undef, undef, undef, undef, undef, undef, undef, undef] from rfl]
  apply wpS_seq
  apply wpS_region
  simp [wpOpsS, go_sem, recoverD, hu, Exit.thenS]
  refine wpS_of_wp ?_
  go_wp2_with fail
  obtain ⟨V, hV, hVs, hVb, hVh⟩ := boxed w (.cells #[.int .i64 x, .int .i64 y] 131)
  have hb2 : b + 2 < w.heap.size := (Array.getElem?_eq_some_iff.1 h.e).1
  have r0 := HH.out.kept hVb hb2
  have r1 := r0.setR (.pointer none)
  have r2 := r1.setL (.int .i64 x)
  have r3 := r2.setC (.int .i64 y)
  have r4 := hide (r3.setE (.int .i64 7))
  obtain ⟨f0, g0⟩ := r0.cells
  obtain ⟨f1, g1⟩ := r1.cells
  obtain ⟨f2, g2⟩ := r2.cells
  obtain ⟨f3, g3⟩ := r3.cells
  have d0 : V.cell? ⟨w.heap.size, 0, none⟩ = some (.int .i64 x) ∧ V.cell? ⟨w.heap.size, 1, none⟩ = some (.int .i64 y) := ⟨(Joins.cell_of_block hVh 0).trans rfl, (Joins.cell_of_block hVh 1).trans rfl⟩
  have hVh1 : (V.setCell ⟨b, 0, none⟩ (.pointer none)).heap[w.heap.size]? = some (.cells #[.int .i64 x, .int .i64 y] 131 (0, 0)) := (Below.heap_setCell _ _ _ _ (by simp only; omega)).trans hVh
  have d1 : (V.setCell ⟨b, 0, none⟩ (.pointer none)).cell? ⟨w.heap.size, 0, none⟩ = some (.int .i64 x) ∧ (V.setCell ⟨b, 0, none⟩ (.pointer none)).cell? ⟨w.heap.size, 1, none⟩ = some (.int .i64 y) := ⟨(Joins.cell_of_block hVh1 0).trans rfl, (Joins.cell_of_block hVh1 1).trans rfl⟩
  have HB := hide (((((hVb.mono (show b ≤ w.heap.size by omega)).setCell (p := ⟨b, 0, none⟩) (Nat.le_refl _) (.pointer none)).setCell (p := ⟨b + 1, 0, none⟩) (by simp only; omega) (.int .i64 x)).setCell (p := ⟨b + 1, 1, none⟩) (by simp only; omega) (.int .i64 y)).setCell (p := ⟨b + 2, 0, none⟩) (by simp only; omega) (.int .i64 7))
  rw [← hV]
  clear hV hVs hVb hVh h HH r0 r1 r2 r3 hVh1 hta
  go_region
  all_goals
    refine ⟨rfl, _, rfl, _, ?_, rfl, rfl, ?_, ?_⟩
    · simp [results, Tryz.results82, go_sem]
    · exact HB.out.drew
    · exact ⟨r4.out.r, r4.out.at_, r4.out.e⟩
set_option maxRecDepth 100000 in
set_option maxHeartbeats 4000000 in
theorem catch_idle (b : Nat) (w : World) :
    CallsD Tryz.prog 82 #[.pointer (some ⟨b, 0, none⟩), .pointer (some ⟨b + 1, 0, none⟩), .pointer (some ⟨b + 2, 0, none⟩)] .returning w fun e u' w' => e = .returned (.tuple #[]) ∧ u' = .returning ∧ w' = w := by
  refine callsD_of_wpS Tryz.func82 rfl fun c₀ cs hu => ?_
  rw [show (#[Value.pointer (some ⟨b, 0, none⟩), .pointer (some ⟨b + 1, 0, none⟩), .pointer (some ⟨b + 2, 0, none⟩)] : Array Value) ++ Array.replicate (Tryz.f82.ntmps - (#[Value.pointer (some ⟨b, 0, none⟩), .pointer (some ⟨b + 1, 0, none⟩), .pointer (some ⟨b + 2, 0, none⟩)] : Array Value).size) undef = #[.pointer (some ⟨b, 0, none⟩), .pointer (some ⟨b + 1, 0, none⟩), .pointer (some ⟨b + 2, 0, none⟩), undef, undef, undef, undef, undef, undef, undef, undef, undef, undef, undef, undef, undef, undef, undef] from rfl]
  apply wpS_seq
  apply wpS_region
  simp [wpOpsS, go_sem, recoverD, hu, Exit.thenS]
  refine wpS_of_wp ?_
  go_wp2_with fail
  cases c₀
  simp_all [bodyPostS, results, Tryz.results82]
end Go.Proofs.YtnjbfhfjdhfdlaaGreatDoor
namespace Go.Proofs.YtnjbfhfjdhfdlaaGreatDoor
open Go.RowKit

/-- what read leaves -/
def ReadPost (w : World) (x : TRes) (e : Ending) (w' : World) : Prop :=
  Below w.heap.size w w' ∧ match x with
    | .bad a c => e = .returned (.tuple #[.pointer none, .agg #[.int .i64 a, .int .i64 c], .int .i64 7])
    | .good L => match readR L with
      | .ok (a, _) => ∃ (rb n : Nat) (tv : Value), n ≤ 1000000 ∧ w.heap.size ≤ rb ∧ e = .returned (.tuple #[.pointer (some ⟨rb, 0, none⟩), .agg #[.int .i64 0, .int .i64 0], .int .i64 0]) ∧ RSt rb tv L n a.1 a.2 w'
      | .error q => e = .returned (.tuple #[.pointer none, .agg #[.int .i64 q.1, .int .i64 q.2], .int .i64 7])
/-- the reader of a text, as read works with it -/
structure Rq (w : World) (b rb : Nat) (tv : Value) (L : List TokD) (n : Nat) (h : HouseP) (c : SheetP) (x : World) : Prop where
  bel : Below b w x
  res : Res3 b (.pointer (some ⟨rb, 0, none⟩)) (.int .i64 0) (.int .i64 0) (.int .i64 0) x
  st : RSt rb tv L n h c x
  lt : b + 2 < rb
section
variable {w : World} {b rb : Nat} {tv : Value} {L : List TokD} {n : Nat} {h : HouseP} {c : SheetP} {x y : World}
theorem Rq.step {m : Nat} {h' : HouseP} {c' : SheetP} (hq : Rq w b rb tv L n h c x) (hb : Below rb x y) (hst : RSt rb tv L m h' c' y) : Rq w b rb tv L m h' c' y :=
  ⟨hq.bel.trans (hb.mono (by have := hq.lt; omega)), hq.res.kept hb hq.lt, hst, hq.lt⟩
theorem Rq.rlt (hq : Rq w b rb tv L n h c x) : rb < x.heap.size := by
  obtain ⟨S, R, C, A, hin, _⟩ := hq.st
  exact hin.rd.lt
theorem Rq.below (hq : Rq w b rb tv L n h c x) (hg : x.grownBy y (some rb)) : Below rb x y := Below.grown (Below.refl _ _) hg (Nat.le_of_lt hq.rlt) (fun k hk => by injection hk with hk; omega)
theorem Rq.ctx (hq : Rq w b rb tv L n h c x) (ht : TabsS w) (hb : b = w.heap.size) : Ctx w rb x := ⟨ht, hb ▸ hq.bel, by have := hq.lt; omega⟩
theorem Rq.more (hq : Rq w b rb tv L n h c x) (hb : Below x.heap.size x y) : Rq w b rb tv L n h c y := by
  have hl := hq.rlt
  obtain ⟨S, R, C, A, hin, hS, hR, hC, hA⟩ := hq.st
  exact hq.step (hb.mono (Nat.le_of_lt hl)) ⟨S, R, C, A, hin.kept (grown_of_below hb) (hin.rd.more hb) (Nat.le_refl _), hS, hR, hC, hA⟩
theorem Res3.cells1 {b : Nat} {p l c e : Value} {w : World} (h : Res3 b p l c e w) : (w.cell? ⟨b, 0, none⟩ = some p ∧ w.cell? ⟨b + 1, 0, none⟩ = some l ∧ w.cell? ⟨b + 1, 1, none⟩ = some c ∧ w.cell? ⟨b + 1 + 1, 0, none⟩ = some e) ∧ (w.frozen? ⟨b, 0, none⟩ = false ∧ w.frozen? ⟨b + 1, 0, none⟩ = false ∧ w.frozen? ⟨b + 1, 1, none⟩ = false ∧ w.frozen? ⟨b + 1 + 1, 0, none⟩ = false) := h.cells
theorem Rq.len (hq : Rq w b rb tv L n h c x) (hb : Below rb x y) : Below b w y ∧ Res3 b (.pointer (some ⟨rb, 0, none⟩)) (.int .i64 0) (.int .i64 0) (.int .i64 0) y := ⟨hq.bel.trans (hb.mono (by have := hq.lt; omega)), hq.res.kept hb hq.lt⟩
/-- what a method of the reader leaves, as read sees it -/
def QPost {α : Type} (w : World) (b rb : Nat) (tv : Value) (L : List TokD) (h : HouseP) (c : SheetP) (val : α → Value) (x : Rd α) (e : Ending) (y : World) : Prop :=
  match x with
  | .ok (a, r) => e = .returned (val a) ∧ ∃ m, L.drop m = r ∧ Rq w b rb tv L m h c y
  | .error q => e = .panicked [{ v := .iface 131 (.agg #[.int .i64 q.1, .int .i64 q.2]), recovered := false }] ∧ Below b w y ∧ Res3 b (.pointer (some ⟨rb, 0, none⟩)) (.int .i64 0) (.int .i64 0) (.int .i64 0) y
theorem QPost.of {α : Type} {val : α → Value} {xr : Rd α} (hq : Rq w b rb tv L n h c x) (hl : Last5 (L.drop n)) (hle : ∀ a r, xr = .ok (a, r) → r.length ≤ (L.drop n).length) {f : FuncId} {args : Array Value} (K : ∀ S R C A, RIn rb tv L n h.name h.height S R C A x → Calls Tryz.prog f args x (RPost rb tv L (memRest h.name h.height S R C A) val xr x)) : Calls Tryz.prog f args x (QPost w b rb tv L h c val xr) := by
  obtain ⟨S, R, C, A, hin, hS, hR, hC, hA⟩ := hq.st
  refine (K S R C A hin).mono ?_
  rintro e y ⟨hg, hx⟩
  have hb := hq.below hg
  unfold QPost
  cases hxr : xr with
  | error q => rw [hxr] at hx; exact ⟨hx, hq.len hb⟩
  | ok v =>
    obtain ⟨a, r⟩ := v
    rw [hxr] at hx
    obtain ⟨h1, m, h2, h3⟩ := hx
    have e1 := hle a r hxr
    have e2 := congrArg List.length h2
    obtain ⟨_, _, _, _, _, hml⟩ := hl.head
    simp only [List.length_drop] at e1 e2
    exact ⟨h1, m, h2, hq.step hb ⟨S, R, C, A, hin.kept hg h3 (by omega), hS, hR, hC, hA⟩⟩
theorem now_q (hq : Rq w b rb tv L n h c x) {t : TokD} (hg : L[n]? = some t) : Calls Tryz.prog 87 #[.pointer (some ⟨rb, 0, none⟩)] x (Gives x t.val) := by
  obtain ⟨S, R, C, A, hin, _⟩ := hq.st
  exact now_any hin.rd hg
theorem Rq.numAt (hq : Rq w b rb tv L n h c x) : Go.Proofs.YtnjbfhfjdhfdlaaGreatDoor.numAt x ⟨rb, 1, none⟩ = n := by
  obtain ⟨S, R, C, A, hin, _⟩ := hq.st
  exact hin.rd.numAt
theorem blank_q (hq : Rq w b rb tv L n h c x) (hl : Last5 (L.drop n)) (hbig : L.length ≤ 1000000) : Calls Tryz.prog 83 #[.pointer (some ⟨rb, 0, none⟩)] x (QPost w b rb tv L h c (fun _ : Unit => .tuple #[]) (.ok ((), blankR (L.drop n)))) :=
  QPost.of hq hl (fun _ r e => by
    injection e with e
    injection e with _ e
    rw [← e]
    obtain ⟨p, hp⟩ := (blank_gd _ hl).1
    have := congrArg List.length hp
    rw [List.length_append] at this
    omega) (fun _ _ _ _ hin => blank_any hin.rd hl hbig)
theorem take_q (hq : Rq w b rb tv L n h c x) (hl : Last5 (L.drop n)) (hbig : L.length ≤ 1000000) (k : Int) (vt : Value) (ok : List UInt8 → Bool) (ht : TextsOf x vt ok) : Calls Tryz.prog 84 #[.pointer (some ⟨rb, 0, none⟩), .int .i64 k, vt] x (QPost w b rb tv L h c Value.string (takeR k ok (L.drop n))) :=
  QPost.of hq hl (fun a r e => Nat.le_of_lt (take_less k ok _ a r e)) (fun _ _ _ _ hin => take_any hin.rd hl hbig k vt ok ht)
theorem name_q (hq : Rq w b rb tv L n h c x) (hl : Last5 (L.drop n)) (hbig : L.length ≤ 1000000) : Calls Tryz.prog 85 #[.pointer (some ⟨rb, 0, none⟩)] x (QPost w b rb tv L h c Value.string (nameR (L.drop n))) :=
  QPost.of hq hl (fun _ _ e => Nat.le_of_lt (name_less' e)) (fun _ _ _ _ hin => name_any hin.rd hl hbig)
theorem number_q (hq : Rq w b rb tv L n h c x) (hl : Last5 (L.drop n)) (hbig : L.length ≤ 1000000) (hts : ∀ t ∈ L, t.text.size ≤ 1000000) (ht : TabsS w) (hb : b = w.heap.size) : Calls Tryz.prog 86 #[.pointer (some ⟨rb, 0, none⟩)] x (QPost w b rb tv L h c (fun v : Int => .int .i64 v) (numR (L.drop n))) :=
  QPost.of hq hl (fun a r e => Nat.le_of_lt (num_less _ a r e)) (fun _ _ _ _ hin => number_any hin.rd hl hbig hts (hq.ctx ht hb))
theorem line_q (hq : Rq w b rb tv L n h c x) (hl : Last5 (L.drop n)) (hbig : L.length ≤ 1000000) (hts : ∀ t ∈ L, t.text.size ≤ 1000000) (ht : TabsS w) (hb : b = w.heap.size) : Calls Tryz.prog 88 #[.pointer (some ⟨rb, 0, none⟩)] x fun e y =>
    match stmtR h c (L.drop n) with
    | .ok (a, r) => e = .returned (.tuple #[]) ∧ ∃ m, L.drop m = r ∧ Rq w b rb tv L m a.1 a.2 y
    | .error q => e = .panicked [{ v := .iface 131 (.agg #[.int .i64 q.1, .int .i64 q.2]), recovered := false }] ∧ Below b w y ∧ Res3 b (.pointer (some ⟨rb, 0, none⟩)) (.int .i64 0) (.int .i64 0) (.int .i64 0) y := by
  refine (line_any hq.st hl hbig hts (hq.ctx ht hb)).mono ?_
  rintro e y ⟨hb', hx⟩
  cases hs : stmtR h c (L.drop n) with
  | error q => rw [hs] at hx; exact ⟨hx, hq.len hb'⟩
  | ok v =>
    obtain ⟨a, r⟩ := v
    rw [hs] at hx
    obtain ⟨h1, m, h2, h3⟩ := hx
    exact ⟨h1, m, h2, hq.step hb' h3⟩
/-- a write into a block beneath the reader, that is not the tokens' -/
theorem RSt.putAt {k : Nat} (hst : RSt rb tv L n h c x) (hk : k < rb) (hkt : ∀ tb cap, tv = .slice (some ⟨tb, 0, none⟩) L.length cap → k ≠ tb) (i : Nat) (v : Value) : RSt rb tv L n h c (x.setCell ⟨k, i, none⟩ v) := by
  obtain ⟨S, R, C, A, hin, hS, hR, hC, hA⟩ := hst
  exact ⟨S, R, C, A, ⟨hin.rd.putOther (by omega) hkt i v, hin.rows.kept (grown_put (World.grownBy.refl x (some k))) (fun j hj => by injection hj with hj; omega), hin.low, hin.cnt⟩, hS, hR, hC, hA⟩
theorem Rq.setName (hq : Rq w b rb tv L n h c x) (nm : ByteArray) : (∃ v, x.cell? ⟨rb, 2, none⟩ = some v) ∧ x.frozen? ⟨rb, 2, none⟩ = false ∧ Rq w b rb tv L n { h with name := nm } c (x.setCell ⟨rb, 2, none⟩ (.string nm)) := by
  obtain ⟨S, R, C, A, hin, hS, hR, hC, hA⟩ := hq.st
  refine ⟨⟨_, (hin.rd.cellr 0).trans rfl⟩, hin.rd.free 2, hq.step ((Below.refl rb x).setCell (p := ⟨rb, 2, none⟩) (Nat.le_refl _) _) ⟨S, R, C, A, ⟨hin.rd.put 0 (.string nm), hin.rows.kept (grown_put (World.grownBy.refl x (some rb))) (fun j hj => by injection hj with hj; omega), hin.low, hin.cnt⟩, hS, hR, hC, hA⟩⟩
theorem Rq.setHeight (hq : Rq w b rb tv L n h c x) (v : Int) : (∃ v, x.cell? ⟨rb, 3, none⟩ = some v) ∧ x.frozen? ⟨rb, 3, none⟩ = false ∧ Rq w b rb tv L n { h with height := v } c (x.setCell ⟨rb, 3, none⟩ (.int .i64 v)) := by
  obtain ⟨S, R, C, A, hin, hS, hR, hC, hA⟩ := hq.st
  refine ⟨⟨_, (hin.rd.cellr 1).trans rfl⟩, hin.rd.free 3, hq.step ((Below.refl rb x).setCell (p := ⟨rb, 3, none⟩) (Nat.le_refl _) _) ⟨S, R, C, A, ⟨hin.rd.put 1 (.int .i64 v), hin.rows.kept (grown_put (World.grownBy.refl x (some rb))) (fun j hj => by injection hj with hj; omega), hin.low, hin.cnt⟩, hS, hR, hC, hA⟩⟩
end
/-- where the loop over the lines stands -/
def RestAt (f : Nat) (h : HouseP) (c : SheetP) (ts : List TokD) : Rd (HouseP × SheetP) := if kindT ts = 5 then .ok ((h, c), ts) else bindR (stmtR h c ts) fun x r => restR f x.1 x.2 r
theorem RestAt.done {f : Nat} {h : HouseP} {c : SheetP} {ts : List TokD} (hk : kindT ts = 5) : RestAt f h c ts = .ok ((h, c), ts) := by rw [RestAt, if_pos hk]
theorem RestAt.err {f : Nat} {h : HouseP} {c : SheetP} {ts : List TokD} {q : Int × Int} (hk : ¬ kindT ts = 5) (hs : stmtR h c ts = .error q) : RestAt f h c ts = .error q := by rw [RestAt, if_neg hk, hs]; rfl
theorem RestAt.step {f : Nat} {h : HouseP} {c : SheetP} {ts r : List TokD} {a : HouseP × SheetP} (hk : ¬ kindT ts = 5) (hs : stmtR h c ts = .ok (a, r)) : RestAt (f + 1) h c ts = RestAt f a.1 a.2 (blankR r) := by rw [RestAt, if_neg hk, hs]; rfl
theorem RSt.start {rb : Nat} {tv : Value} {L : List TokD} {x : World} (hrd : Rd0 rb tv L 0 [.string ⟨#[]⟩, .int .i64 0, .slice none 0 0, .slice none 0 0, .slice none 0 0, .slice none 0 0] x) (hlow : ∀ tb cap, tv = .slice (some ⟨tb, 0, none⟩) L.length cap → tb < rb) : RSt rb tv L 0 ⟨⟨#[]⟩, 0, [], []⟩ ⟨[], []⟩ x := by
  refine ⟨⟨none, 0, []⟩, ⟨none, 0, []⟩, ⟨none, 0, []⟩, ⟨none, 0, []⟩, ⟨hrd, ⟨fun r hr => ?_, ?_⟩, hlow, fun r hr => ?_⟩, rfl, rfl, rfl, rfl⟩
  · simp only [memRows, List.flatMap_nil, List.append_nil, List.mem_cons, List.not_mem_nil, or_false] at hr
    rcases hr with rfl | rfl | rfl | rfl <;> exact World.ownsRow_nil _ _ _ _
  · unfold memRows
    refine List.pairwise_cons.2 ⟨fun _ _ k hk => by simp [Value.ownBlock, Sl.val] at hk, List.pairwise_cons.2 ⟨fun _ _ k hk => by simp [Value.ownBlock, Sl.val] at hk, List.pairwise_cons.2 ⟨fun _ _ k hk => by simp [Value.ownBlock, Sl.val] at hk, List.pairwise_cons.2 ⟨fun _ _ k hk => by simp [Value.ownBlock, Sl.val] at hk, List.Pairwise.nil⟩⟩⟩⟩
  · simp only [memRows, List.flatMap_nil, List.append_nil, List.mem_cons, List.not_mem_nil, or_false] at hr
    rcases hr with rfl | rfl | rfl | rfl <;> exact Nat.zero_le _
theorem tokCells_get : ∀ (L : List TokD) (i : Nat) (t : TokD), L[i]? = some t → ∀ (j : Nat) (u : Value), (TokD.cells t)[j]? = some u → (tokCells L)[i * 4 + j]? = some u
  | t :: L, 0, t', h, j, u, hu => by
    simp only [List.getElem?_cons_zero, Option.some.injEq] at h
    subst h
    have hj : j < (TokD.cells t).length := (List.getElem?_eq_some_iff.1 hu).1
    rw [Nat.zero_mul, Nat.zero_add, tokCells, List.flatMap_cons, List.getElem?_append_left hj]
    exact hu
  | t :: L, i + 1, t', h, j, u, hu => by
    have h1 := tokCells_get L i t' (by simpa using h) j u hu
    rw [tokCells, List.flatMap_cons, List.getElem?_append_right (by rw [show (TokD.cells t).length = 4 from rfl]; omega)]
    rw [show (i + 1) * 4 + j - (TokD.cells t).length = i * 4 + j by rw [show (TokD.cells t).length = 4 from rfl]; omega]
    exact h1
set_option maxRecDepth 100000 in
set_option maxHeartbeats 4000000 in
theorem door_panic {b : Nat} {p l c e : Value} {x : World} (h : Res3 b p l c e x) (q0 q1 : Int) {tmps : Array Value} (h2 : tmps[2]? = some (.pointer (some ⟨b, 0, none⟩))) (h3 : tmps[3]? = some (.pointer (some ⟨b + 1, 0, none⟩))) (h4 : tmps[4]? = some (.pointer (some ⟨b + 1 + 1, 0, none⟩))) {R : Ending → World → Prop}
    (hR : ∀ x', Below b x x' → R (.returned (.tuple #[.pointer none, .agg #[.int .i64 q0, .int .i64 q1], .int .i64 7])) x') :
    Leaves Tryz.prog Tryz.f44 tmps R [{ target := .fn (.func 82) #[.pointer (some ⟨b, 0, none⟩), .pointer (some ⟨b + 1, 0, none⟩), .pointer (some ⟨b + 1 + 1, 0, none⟩)], args := #[] }] (.panicking [{ v := .iface 131 (.agg #[.int .i64 q0, .int .i64 q1]), recovered := false }]) x := by
  refine leaves_cons (f := 82) (args := #[.pointer (some ⟨b, 0, none⟩), .pointer (some ⟨b + 1, 0, none⟩), .pointer (some ⟨b + 1 + 1, 0, none⟩)]) (by simp) (by simp [go_sem]) ?_
  refine (catch_any b p l c e q0 q1 x h).mono ?_
  rintro e1 u' x' ⟨rfl, rfl, hb, hr⟩
  obtain ⟨⟨c0, c1, c2, c3⟩, _⟩ := hr.cells1
  refine ⟨_, ?_, hR x' hb⟩
  simp [results, Tryz.results44, go_sem, h2, h3, h4, c0, c1, c2, c3]
theorem door_return {b : Nat} {p l c e : Value} {x : World} (h : Res3 b p l c e x) {tmps : Array Value} (h2 : tmps[2]? = some (.pointer (some ⟨b, 0, none⟩))) (h3 : tmps[3]? = some (.pointer (some ⟨b + 1, 0, none⟩))) (h4 : tmps[4]? = some (.pointer (some ⟨b + 1 + 1, 0, none⟩))) {R : Ending → World → Prop}
    (hR : R (.returned (.tuple #[p, .agg #[l, c], e])) x) :
    Leaves Tryz.prog Tryz.f44 tmps R [{ target := .fn (.func 82) #[.pointer (some ⟨b, 0, none⟩), .pointer (some ⟨b + 1, 0, none⟩), .pointer (some ⟨b + 1 + 1, 0, none⟩)], args := #[] }] .returning x := by
  refine leaves_cons (f := 82) (args := #[.pointer (some ⟨b, 0, none⟩), .pointer (some ⟨b + 1, 0, none⟩), .pointer (some ⟨b + 1 + 1, 0, none⟩)]) (by simp) (by simp [go_sem]) ?_
  refine (catch_idle b x).mono ?_
  rintro e1 u' x' ⟨rfl, rfl, rfl⟩
  obtain ⟨⟨c0, c1, c2, c3⟩, _⟩ := h.cells1
  refine ⟨_, ?_, hR⟩
  simp [results, Tryz.results44, go_sem, h2, h3, h4, c0, c1, c2, c3]

theorem ReadPost.err {s : ByteArray} {w x : World} {b : Nat} {L : List TokD} {q : Int × Int} (hb : b = w.heap.size) (htk : toks (bs s) = .good L) (he : readR L = .error q) (hbel : Below b w x) : ReadPost w (toks (bs s)) (.returned (.tuple #[.pointer none, .agg #[.int .i64 q.1, .int .i64 q.2], .int .i64 7])) x := by
  refine ⟨hb ▸ hbel, ?_⟩
  rw [htk]
  simp only [he]
theorem ReadPost.good {s : ByteArray} {w x : World} {b rb n : Nat} {tv : Value} {L r : List TokD} {h : HouseP} {c : SheetP} (hb : b = w.heap.size) (htk : toks (bs s) = .good L) (he : readR L = .ok ((h, c), r)) (hbel : Below b w x) (hrb : b + 2 < rb) (hn : n ≤ 1000000) (hst : RSt rb tv L n h c x) : ReadPost w (toks (bs s)) (.returned (.tuple #[.pointer (some ⟨rb, 0, none⟩), .agg #[.int .i64 0, .int .i64 0], .int .i64 0])) x := by
  refine ⟨hb ▸ hbel, ?_⟩
  rw [htk]
  simp only [he]
  exact ⟨rb, n, tv, hn, by omega, rfl, hst⟩
abbrev houseW : List UInt8 → Bool := fun w => decide (w = wHouse)
section
variable {L r r2 r3 r4 : List TokD} {q : Int × Int} {s s2 nm : ByteArray} {v : Int}
theorem readR_take (h : takeR 1 houseW (blankR L) = .error q) : readR L = .error q := by rw [readR, headR, h]; rfl
theorem readR_name (h : takeR 1 houseW (blankR L) = .ok (s, r)) (h2 : nameR r = .error q) : readR L = .error q := by rw [readR, headR, h]; simp only [bindR]; rw [h2]
theorem readR_num (h : takeR 1 houseW (blankR L) = .ok (s, r)) (h2 : nameR r = .ok (nm, r2)) (h3 : numR r2 = .error q) : readR L = .error q := by rw [readR, headR, h]; simp only [bindR]; rw [h2]; simp only; rw [h3]
theorem readR_end (h : takeR 1 houseW (blankR L) = .ok (s, r)) (h2 : nameR r = .ok (nm, r2)) (h3 : numR r2 = .ok (v, r3)) (h4 : endR r3 = .error q) : readR L = .error q := by rw [readR, headR, h]; simp only [bindR]; rw [h2]; simp only; rw [h3]; simp only; rw [h4]
theorem readR_rest (h : takeR 1 houseW (blankR L) = .ok (s, r)) (h2 : nameR r = .ok (nm, r2)) (h3 : numR r2 = .ok (v, r3)) (h4 : endR r3 = .ok (s2, r4)) : readR L = restR L.length ⟨nm, v, [], []⟩ ⟨[], []⟩ r4 := by rw [readR, headR, h]; simp only [bindR]; rw [h2]; simp only; rw [h3]; simp only; rw [h4]
end
def sHouse : ByteArray := ⟨#[104, 111, 117, 115, 101]⟩
theorem house_texts (x : ByteArray) : houseW (bs x) = true ↔ x ∈ [sHouse] := by
  have e1 : wHouse = bs sHouse := by kernel_rfl
  simp only [houseW, e1, bs_iff, decide_eq_true_eq, List.mem_cons, List.not_mem_nil, or_false]
end Go.Proofs.YtnjbfhfjdhfdlaaGreatDoor
namespace Go.Proofs.YtnjbfhfjdhfdlaaGreatDoor
open Go.RowKit

theorem addr_add (b n : Nat) : (⟨b, 0, none⟩ : Addr).add n = ⟨b, n, none⟩ := by
  unfold Addr.add
  split
  · rename_i h; rw [h]
  · simp
set_option maxRecDepth 100000 in
set_option maxHeartbeats 8000000 in
theorem read_any (s : ByteArray) (hs : s.size ≤ 262144) (w : World) (hc : TabsS w) : Calls Tryz.prog 44 #[.string s] w (ReadPost w (toks (bs s))) := by
  have hmf : ∀ (fn : Fn) (first cap : Array Value) (w : World), (Instr.makeFunc fn first cap).run Tryz.prog w = .ok (.func fn first cap) w := fun _ _ _ _ => rfl
  obtain ⟨b, hb⟩ : ∃ b, b = w.heap.size := ⟨_, rfl⟩
  obtain ⟨U1, hU1, hU1s, hU1b, hU1h⟩ := boxed w (.cells #[.pointer none] 95)
  obtain ⟨U2, hU2, hU2s, hU2b, hU2h⟩ := boxed U1 (.cells #[.int .i64 0, .int .i64 0] 40)
  obtain ⟨U, hU3, hU3s, hU3b, hU3h⟩ := boxed U2 (.cells #[.int .i64 0] 32)
  rw [hU1s] at hU2s hU2h hU2b
  rw [hU2s] at hU3s hU3h hU3b
  rw [← hb] at hU1s hU1b hU1h hU2s hU2h hU2b hU3s hU3h hU3b
  have hwU : Below b w U := (hU1b.trans (hU2b.mono (by omega))).trans (hU3b.mono (by omega))
  have hres : Res3 b (.pointer none) (.int .i64 0) (.int .i64 0) (.int .i64 0) U := ⟨(hU3b.block _ (by omega)).trans ((hU2b.block _ (by omega)).trans hU1h), (hU3b.block _ (by omega)).trans hU2h, hU3h⟩
  have HT := hide (tokens_any s hs U)
  have HWU := hide hwU
  have HRES := hide hres
  have HU := hide (show ((w.alloc (.cells #[.pointer none] 95)).alloc (.cells #[.int .i64 0, .int .i64 0] 40)).alloc (.cells #[.int .i64 0] 32) = U by rw [← hU1, ← hU2, ← hU3])
  have HC := hide hc
  have HB := hide hb
  clear hU1 hU1s hU1b hU1h hU2 hU2s hU2b hU2h hU3 hU3b hU3h hwU hres hc hb
  go_enter_defers Tryz.func44, Tryz.ntmps44
  go_upto_region 1 with fail
  rw [HU.out, ← HB.out]
  go_wp2_with fail
  refine HT.out.mono ?_
  rintro e w1 hp
  cases htk : toks (bs s) with
  | bad a c =>
    rw [htk] at hp
    obtain ⟨hb1, rfl⟩ := hp
    have HTK := hide htk
    clear htk
    have r0 := HRES.out.kept hb1 (by rw [hU3s]; omega)
    have r1 := r0.setL (.int .i64 a)
    have r2 := r1.setC (.int .i64 c)
    have r3 := r2.setE (.int .i64 7)
    have r4 := r3.setR (.pointer none)
    have r5 := r4.setL (.int .i64 a)
    have r6 := r5.setC (.int .i64 c)
    have r7 := r6.setE (.int .i64 7)
    obtain ⟨f0, g0⟩ := r0.cells1
    obtain ⟨f1, g1⟩ := r1.cells1
    obtain ⟨f2, g2⟩ := r2.cells1
    obtain ⟨f3, g3⟩ := r3.cells1
    obtain ⟨f4, g4⟩ := r4.cells1
    obtain ⟨f5, g5⟩ := r5.cells1
    obtain ⟨f6, g6⟩ := r6.cells1
    obtain ⟨f7, g7⟩ := r7.cells1
    have HR := hide (And.intro r3 r7)
    have HBL := hide (HWU.out.trans (hb1.mono (show b ≤ U.heap.size by rw [hU3s]; omega)))
    clear r0 r1 r2 r3 r4 r5 r6 r7 hb1
    go_wp2_with fail
    go_region
    all_goals
      go_simp
      go_wp2_with fail
      refine ⟨.tuple #[.pointer none, .agg #[.int .i64 a, .int .i64 c], .int .i64 7], ?_, ?_, ?_⟩
      · simp [results, Tryz.results44, go_sem, f7]
      · rw [← HB.out]
        exact (((((((HBL.out.setCell (p := ⟨b + 1, 0, none⟩) (by simp only; omega) _).setCell (p := ⟨b + 1, 1, none⟩) (by simp only; omega) _).setCell (p := ⟨b + 1 + 1, 0, none⟩) (by simp only; omega) _).setCell (p := ⟨b, 0, none⟩) (Nat.le_refl _) _).setCell (p := ⟨b + 1, 0, none⟩) (by simp only; omega) _).setCell (p := ⟨b + 1, 1, none⟩) (by simp only; omega) _).setCell (p := ⟨b + 1 + 1, 0, none⟩) (by simp only; omega) _).drew
      · rw [HTK.out]
  | good L =>
    rw [htk] at hp
    obtain ⟨hb1, v, rfl, hown⟩ := hp
    obtain ⟨hl5, hln, hts⟩ := toks_fit htk
    have HTK := hide htk
    clear htk
    have r0 := HRES.out.kept hb1 (by rw [hU3s]; omega)
    have r1 := r0.setL (.int .i64 0)
    have r2 := r1.setC (.int .i64 0)
    have r3 : Res3 b _ _ _ _ (((w1.setCell ⟨b + 1, 0, none⟩ (.int .i64 0)).setCell ⟨b + 1, 1, none⟩ (.int .i64 0)).setCell ⟨b + 1 + 1, 0, none⟩ (.int .i64 0)) := r2.setE (.int .i64 0)
    obtain ⟨f0, g0⟩ := r0.cells1
    obtain ⟨f1, g1⟩ := r1.cells1
    obtain ⟨f2, g2⟩ := r2.cells1
    obtain ⟨f3, g3⟩ := r3.cells1
    clear r0 r1 r2
    go_upto_region 5 with fail
    obtain ⟨x0, hx0⟩ : ∃ x, x = (((w1.setCell ⟨b + 1, 0, none⟩ (.int .i64 0)).setCell ⟨b + 1, 1, none⟩ (.int .i64 0)).setCell ⟨b + 1 + 1, 0, none⟩ (.int .i64 0)) := ⟨_, rfl⟩
    have hbl := HWU.out.trans (hb1.mono (show b ≤ U.heap.size by rw [hU3s]; omega))
    have hb0 : Below b w x0 := by
      rw [hx0]
      exact ((hbl.setCell (p := ⟨b + 1, 0, none⟩) (by simp only; omega) _).setCell (p := ⟨b + 1, 1, none⟩) (by simp only; omega) _).setCell (p := ⟨b + 1 + 1, 0, none⟩) (by simp only; omega) _
    have hown0 : x0.ownsRow U.heap.size 135 4 v L.length (tokCells L) := own_block hown (fun g hg => by
      have := own_owner hown g hg
      rw [hx0, Below.heap_setCell _ _ _ _ (by simp only; omega), Below.heap_setCell _ _ _ _ (by simp only; omega), Below.heap_setCell _ _ _ _ (by simp only; omega)])
    rw [← hx0] at r3 f3 g3 ⊢
    have hLpos : 0 < L.length := by
      cases L with
      | nil => exact absurd rfl hl5.ne
      | cons t r => simp
    obtain ⟨tb, cap, rfl, htb, htl⟩ := World.ownsRow.form hown0 hLpos
    have hcap : L.length ≤ cap ∧ cap ≤ maxLen := by
      rcases own_cases hown0 with ⟨h1, _⟩ | ⟨g, cur, h1, h2, h3, h4, h5, _⟩
      · cases h1
      · exact ⟨h4, h5⟩
    obtain ⟨X, hX, hXs, hXb, hXh⟩ := boxed x0 (.cells #[.slice (some ⟨tb, 0, none⟩) L.length cap, .int .i64 0, .string ⟨#[]⟩, .int .i64 0, .slice none 0 0, .slice none 0 0, .slice none 0 0, .slice none 0 0] 100)
    obtain ⟨rb, hrb⟩ : ∃ r, r = x0.heap.size := ⟨_, rfl⟩
    rw [← hrb] at hXs hXb hXh htl
    have hrbb : b + 2 < rb := by have := (Array.getElem?_eq_some_iff.1 r3.e).1; omega
    have rX := r3.kept hXb hrbb
    have fA : ∀ o, (x0.alloc o).cell? ⟨b, 0, none⟩ = some (.pointer none) ∧ (x0.alloc o).frozen? ⟨b, 0, none⟩ = false := fun o => by
      have h1 := (heap_alloc_old x0 o (by omega : b < x0.heap.size)).trans r3.r
      exact ⟨(Joins.cell_of_block h1 0).trans rfl, block_unfrozen h1 0⟩
    have rY := rX.setR (.pointer (some ⟨rb, 0, none⟩))
    have hYh : (X.setCell ⟨b, 0, none⟩ (.pointer (some ⟨rb, 0, none⟩))).heap[rb]? = some (.cells #[.slice (some ⟨tb, 0, none⟩) L.length cap, .int .i64 0, .string ⟨#[]⟩, .int .i64 0, .slice none 0 0, .slice none 0 0, .slice none 0 0, .slice none 0 0] 100 (0, 0)) := (Below.heap_setCell _ _ _ _ (by simp only; omega)).trans hXh
    have HRD := hide (show Rq w b rb (.slice (some ⟨tb, 0, none⟩) L.length cap) L 0 ⟨⟨#[]⟩, 0, [], []⟩ ⟨[], []⟩ (X.setCell ⟨b, 0, none⟩ (.pointer (some ⟨rb, 0, none⟩))) from
      ⟨(hb0.trans (hXb.mono (by omega))).setCell (p := ⟨b, 0, none⟩) (Nat.le_refl _) _, rY, RSt.start ⟨hYh, tb, cap, rfl, hcap.1, hcap.2, by omega, by simp [World.setCell]; omega, fun i t hi j u hu => by
        refine (World.cell?_of_block (a := ⟨tb, i * 4 + j, none⟩) ((Below.heap_setCell _ _ _ _ (by simp only; rw [hU3s] at htb; omega)).trans (hXb.block tb htl))).trans ?_
        have h9 := World.ownsRow.cells hown0 rfl (i * 4 + j) u (tokCells_get L i t hi j u hu)
        rw [← addr_add]
        exact h9⟩ (fun tb' cap' e => by injection e with e; injection e with e; injection e with e; omega), hrbb⟩)
    have HX := hide hX
    have HRB := hide hrb
    have HL5 := hide hl5
    have hbig : L.length ≤ 1000000 := by have : (bs s).length = s.size := bs_length s; omega
    have hts' : ∀ t ∈ L, t.text.size ≤ 1000000 := fun t ht => by have h1 := hts t ht; have : (bs s).length = s.size := bs_length s; omega
    have HTS := hide hts'
    clear hx0 hbl hb0 hown hown0 r3 hXs hXb hXh hX hrb rX rY hYh hts hts' hl5 f0 g0 f1 g1 f2 g2 hb1
    have HTB := hide (show b + 2 < tb by rw [hU3s] at htb; omega)
    clear htl hcap htb
    go_upto_region 6 with fail
    rw [← HRB.out, ← HX.out]
    obtain ⟨y0, hy0⟩ : ∃ y, y = X.setCell ⟨b, 0, none⟩ (.pointer (some ⟨rb, 0, none⟩)) := ⟨_, rfl⟩
    rw [← hy0] at HRD ⊢
    clear hy0 fA f3 g3
    have KB := hide (blank_q HRD.out (by simpa using HL5.out) hbig)
    have cl0 := HRD.out.res.cells1.1.1
    go_wp2_with fail
    refine KB.out.mono ?_
    rintro e y1 ⟨rfl, n1, hd1, hq1⟩
    rw [List.drop_zero] at hd1
    have HQ1 := hide hq1
    have HD1 := hide hd1
    have HL1 := hide (show Last5 (L.drop n1) by rw [hd1]; exact (blank_gd L HL5.out).2)
    have cl1 := hq1.res.cells1.1.1
    clear cl0 KB hd1
    obtain ⟨Z, hZ, hZs, hZb, hZh⟩ := boxed y1 (.cells #[.string ⟨#[104, 111, 117, 115, 101]⟩] 9)
    have KT := hide (take_q (hq1.more hZb) HL1.out hbig 1 _ houseW (texts_of [sHouse] (by decide) (by decide) hZh houseW house_texts 1))
    rw [HD1.out] at KT
    have HZ := hide hZ
    clear hZ hZs hZb hZh hq1
    go_wp2_with fail
    rw [← HZ.out]
    refine KT.out.mono ?_
    rintro e y2 hx
    unfold QPost at hx
    clear KT HZ cl1
    cases ht : takeR 1 houseW (blankR L) with
    | error q =>
      rw [ht] at hx
      obtain ⟨rfl, hbel, hres⟩ := hx
      exact door_panic hres q.1 q.2 rfl rfl rfl (fun x' hx' => ReadPost.err HB.out HTK.out (readR_take ht) (hbel.trans hx'))
    | ok v =>
      obtain ⟨hw, r2⟩ := v
      rw [ht] at hx
      obtain ⟨rfl, n2, hd2, hq2⟩ := hx
      have hgd := take_gd (k := 1) (by decide) houseW (blankR L) (by rw [← HD1.out]; exact HL1.out)
      rw [ht] at hgd
      have HL2 := hide (show Last5 (L.drop n2) by rw [hd2]; exact hgd.2)
      have HD2 := hide hd2
      have HQ2 := hide hq2
      have HT2 := hide ht
      have cl2 := hq2.res.cells1.1.1
      clear hgd hd2 hq2 ht
      go_upto_region 8 with fail
      have KN := name_q (HQ2.out.more (Below.refl _ _).drew) HL2.out hbig
      rw [HD2.out] at KN
      cases hn : nameR r2 with
      | error q =>
        have KE := hide (show Calls Tryz.prog 85 #[.pointer (some ⟨rb, 0, none⟩)] y2.drew (fun e y => e = .panicked [{ v := .iface 131 (.agg #[.int .i64 q.1, .int .i64 q.2]), recovered := false }] ∧ Below b w y ∧ Res3 b (.pointer (some ⟨rb, 0, none⟩)) (.int .i64 0) (.int .i64 0) (.int .i64 0) y) from KN.mono (fun e y h => by
          rw [hn] at h
          exact h))
        clear KN
        go_region_law ((go_simp; go_at_call 85; refine KE.out.mono ?_; rintro e y3 ⟨rfl, hbel, hres⟩; refine dead_end (md := .any) (a := ⟨#[], []⟩) (w := y3) ?_ ?_; focus (exact door_panic hres q.1 q.2 rfl rfl rfl (fun x' hx' => ReadPost.err HB.out HTK.out (readR_name HT2.out hn) (hbel.trans hx')))))
        all_goals exact trivial
      | ok v =>
        obtain ⟨nm, r3⟩ := v
        have KO := hide (show Calls Tryz.prog 85 #[.pointer (some ⟨rb, 0, none⟩)] y2.drew (fun e y => e = .returned (.string nm) ∧ ∃ m, L.drop m = r3 ∧ Rq w b rb (.slice (some ⟨tb, 0, none⟩) L.length cap) L m ⟨⟨#[]⟩, 0, [], []⟩ ⟨[], []⟩ y) from KN.mono (fun e y h => by
          rw [hn] at h
          exact h))
        have hgd := name_gd r2 (HD2.out ▸ HL2.out)
        rw [hn] at hgd
        have HL3 := hide hgd.2
        have HN := hide hn
        clear KN hn hgd
        go_cut [27] from 25 to 30 (fun _ wx => ∃ m, L.drop m = r3 ∧ Rq w b rb (.slice (some ⟨tb, 0, none⟩) L.length cap) L m ⟨nm, 0, [], []⟩ ⟨[], []⟩ wx)
        case first =>
          first | go_region_law ((go_simp; go_at_call 85; refine KO.out.mono ?_; rintro e y3 ⟨rfl, m3, hd3, hq3⟩; have cl3 := hq3.res.cells1.1.1; obtain ⟨⟨cv, hcv⟩, hfr, hq3'⟩ := hq3.setName nm; have HQ3 := hide (And.intro hd3 hq3'); clear hd3 hq3 hq3')) | fail
          all_goals
            go_wp2_with fail
            go_meet
            exact ⟨m3, HQ3.out.1, HQ3.out.2⟩
        case rest =>
        obtain ⟨m3, hd3, hq3⟩ := hcut
        have HQ3 := hide hq3
        have HD3 := hide hd3
        have cl3 := hq3.res.cells1.1.1
        have hL3 : Last5 (L.drop m3) := hd3 ▸ HL3.out
        have KN := number_q (hq3.more (Below.refl _ _).drew) hL3 hbig HTS.out HC.out HB.out
        rw [hd3] at KN
        clear hq3 hd3 cl2 KO
        go_upto_region 9 with fail
        cases hv : numR r3 with
        | error q =>
          have KE := hide (show Calls Tryz.prog 86 #[.pointer (some ⟨rb, 0, none⟩)] wc.drew (fun e y => e = .panicked [{ v := .iface 131 (.agg #[.int .i64 q.1, .int .i64 q.2]), recovered := false }] ∧ Below b w y ∧ Res3 b (.pointer (some ⟨rb, 0, none⟩)) (.int .i64 0) (.int .i64 0) (.int .i64 0) y) from KN.mono (fun e y h => by
            rw [hv] at h
            exact h))
          clear KN
          go_region_law ((go_simp; go_at_call 86; refine KE.out.mono ?_; rintro e y4 ⟨rfl, hbel, hres⟩; refine dead_end (md := .any) (a := ⟨#[], []⟩) (w := y4) ?_ ?_; focus (exact door_panic hres q.1 q.2 rfl rfl rfl (fun x' hx' => ReadPost.err HB.out HTK.out (readR_num HT2.out HN.out hv) (hbel.trans hx')))))
          all_goals exact trivial
        | ok v =>
        obtain ⟨ht, r4⟩ := v
        have KO := hide (show Calls Tryz.prog 86 #[.pointer (some ⟨rb, 0, none⟩)] wc.drew (fun e y => e = .returned (.int .i64 ht) ∧ ∃ m, L.drop m = r4 ∧ Rq w b rb (.slice (some ⟨tb, 0, none⟩) L.length cap) L m ⟨nm, 0, [], []⟩ ⟨[], []⟩ y) from KN.mono (fun e y h => by
          rw [hv] at h
          exact h))
        have hgd := num_gd r3 HL3.out
        rw [hv] at hgd
        have HL4 := hide hgd.2
        have HV := hide hv
        clear KN hv hgd hL3
        go_cut [34] from 31 to 36 (fun _ wx => ∃ m, L.drop m = r4 ∧ Rq w b rb (.slice (some ⟨tb, 0, none⟩) L.length cap) L m ⟨nm, ht, [], []⟩ ⟨[], []⟩ wx)
        case first =>
          first | go_region_law ((go_simp; go_at_call 86; refine KO.out.mono ?_; rintro e y4 ⟨rfl, m4, hd4, hq4⟩; have cl4 := hq4.res.cells1.1.1; obtain ⟨⟨cv, hcv⟩, hfr, hq4'⟩ := hq4.setHeight ht; have HQ4 := hide (And.intro hd4 hq4'); clear hd4 hq4 hq4')) | fail
          all_goals
            go_wp2_with fail
            go_meet
            exact ⟨m4, HQ4.out.1, HQ4.out.2⟩
        case rest =>
        obtain ⟨m4, hd4, hq4⟩ := hcut
        have cl4 := hq4.res.cells1.1.1
        have hL4 : Last5 (L.drop m4) := hd4 ▸ HL4.out
        have KT := hide (take_q hq4 hL4 hbig 4 (.slice none 0 0) (fun _ => true) (Or.inl ⟨rfl, rfl⟩))
        rw [hd4] at KT
        clear hq4 hd4 cl3 KO hL4
        go_wp2_with fail
        refine KT.out.mono ?_
        rintro e y5 hx
        unfold QPost at hx
        clear KT cl4
        cases hen : takeR 4 (fun _ => true) r4 with
        | error q =>
          rw [hen] at hx
          obtain ⟨rfl, hbel, hres⟩ := hx
          exact door_panic hres q.1 q.2 rfl rfl rfl (fun x' hx' => ReadPost.err HB.out HTK.out (readR_end HT2.out HN.out HV.out hen) (hbel.trans hx'))
        | ok v =>
        obtain ⟨s5, r5⟩ := v
        rw [hen] at hx
        obtain ⟨rfl, m5, hd5, hq5⟩ := hx
        have HE := hide (readR_rest HT2.out HN.out HV.out hen)
        have hgd := end_gd r4 HL4.out
        rw [show endR r4 = takeR 4 (fun _ => true) r4 from rfl, hen] at hgd
        have hL5 : Last5 (L.drop m5) := by rw [hd5]; exact hgd.2
        have KB := hide (blank_q hq5 hL5 hbig)
        have cl5 := hq5.res.cells1.1.1
        obtain ⟨f, hf⟩ : ∃ f, L.length = f + 1 := ⟨L.length - 1, by omega⟩
        have hlt5 : (L.drop m5).length ≤ f := by
          have e1 := take_less 4 (fun _ => true) r4 _ _ hen
          have e2 := name_less' HN.out
          have e3 := num_less _ _ _ HV.out
          have e4 := take_less 1 houseW _ _ _ HT2.out
          have e5 := congrArg List.length HD1.out
          rw [hd5]
          simp only [List.length_drop] at e5
          omega
        clear hgd hq5 hen
        go_wp2_with fail
        refine KB.out.mono ?_
        rintro e y6 ⟨rfl, m6, hd6, hq6⟩
        have HAT := hide (show readR L = RestAt f ⟨nm, ht, [], []⟩ ⟨[], []⟩ (L.drop m6) by rw [HE.out, hf, hd6, ← hd5]; rfl)
        have HL6 := hide (show Last5 (L.drop m6) by rw [hd6]; exact (blank_gd _ hL5).2)
        have HLN := hide (show (L.drop m6).length ≤ f by
          obtain ⟨p, hp⟩ := (blank_gd _ hL5).1
          have := congrArg List.length hp
          rw [List.length_append] at this
          rw [hd6]
          omega)
        have HQ6 := hide hq6
        clear KB cl5 hd6 hq6 hlt5 hd5 hL5 hf HE HT2 HN HV HD1 HD2 HD3 HQ1 HQ2 HQ3 HL1 HL2 HL3 HL4 HRD
        have g0 := fld0
        go_wp2_with fail
        go_loopw [41] (fun _ wr => ∃ (m f : Nat) (h1 : HouseP) (c1 : SheetP), Hid (Rq w b rb (.slice (some ⟨tb, 0, none⟩) L.length cap) L m h1 c1 wr) ∧ Hid (Last5 (L.drop m)) ∧ Hid ((L.drop m).length ≤ f) ∧ Hid (readR L = RestAt f h1 c1 (L.drop m))) (fun _ wr => L.length - numAt wr ⟨rb, 1, none⟩)
        case atStart => exact ⟨m6, f, _, _, HQ6, HL6, HLN, HAT⟩
        case round =>
          obtain ⟨m, f, h1, c1, hq, hl, hln, hat⟩ := hrel
          obtain ⟨t, r, htr, hg, hr, hml⟩ := hl.out.head
          have KN := hide (Gives.first (now_q hq.out hg))
          simp only [TokD.val] at KN
          have cl := fun z : After wr.heap.size wr => (hq.out.more z.below).res.cells1.1.1
          have cl0 := hq.out.res.cells1.1.1
          have HTR := hide htr
          clear htr hr hg
          by_cases hk : t.kind = 5
          · have hkb : (t.kind != 5) = false := by rw [hk]; rfl
            have HDN := hide (hat.out.trans (RestAt.done (by rw [HTR.out]; exact hk)))
            clear hk
            go_wp2_with (go_at_call 87; refine KN.out.mono ?_; rintro e w1 ⟨rfl, z, rfl⟩; have hz := hq.out.more z.below; have r0 := hz.res; have r1 := r0.setR (.pointer (some ⟨rb, 0, none⟩)); have r2 := r1.setL (.int .i64 0); have r3 := r2.setC (.int .i64 0); have HR4 := hide (r3.setE (.int .i64 0)); have HZ := hide hz; obtain ⟨f0, g0⟩ := r0.cells1; obtain ⟨f1, g1⟩ := r1.cells1; obtain ⟨f2, g2⟩ := r2.cells1; obtain ⟨f3, g3⟩ := r3.cells1; clear r0 r1 r2 r3 hz)
            have hlt := HZ.out.lt
            refine door_return HR4.out rfl rfl rfl (ReadPost.good HB.out HTK.out HDN.out ?_ hlt (by omega) ((((HZ.out.st.putAt (by omega) ?_ _ _).putAt (by omega) ?_ _ _).putAt (by omega) ?_ _ _).putAt (by omega) ?_ _ _))
            · exact (((HZ.out.bel.setCell (p := ⟨b, 0, none⟩) (Nat.le_refl _) _).setCell (p := ⟨b + 1, 0, none⟩) (by simp only; omega) _).setCell (p := ⟨b + 1, 1, none⟩) (by simp only; omega) _).setCell (p := ⟨b + 1 + 1, 0, none⟩) (by simp only; omega) _
            all_goals
              intro tb' cap' e
              injection e with e
              injection e with e
              injection e with e
              have := HTB.out
              omega
          · have hkb : (t.kind != 5) = true := by simpa using hk
            have hk5 : ¬ kindT (L.drop m) = 5 := by rw [HTR.out]; exact hk
            clear hk
            go_wp2_with (go_at_call 87; refine KN.out.mono ?_; rintro e w1 ⟨rfl, z, rfl⟩; have clz := cl z)
            refine (line_q (hq.out.more z.below) hl.out hbig HTS.out HC.out HB.out).mono ?_
            rintro e y hx
            cases hs : stmtR h1 c1 (L.drop m) with
            | error q =>
              rw [hs] at hx
              obtain ⟨rfl, hbel, hres⟩ := hx
              exact door_panic hres q.1 q.2 rfl rfl rfl (fun x' hx' => ReadPost.err HB.out HTK.out (hat.out.trans (RestAt.err hk5 hs)) (hbel.trans hx'))
            | ok v =>
              obtain ⟨a, r'⟩ := v
              rw [hs] at hx
              obtain ⟨rfl, m', hd', hq'⟩ := hx
              have hgd := stmt_gd h1 c1 _ hl.out
              rw [hs] at hgd
              have hl' : Last5 (L.drop m') := by rw [hd']; exact hgd.2
              have hls := stmt_less h1 c1 _ _ _ hs
              obtain ⟨f', rfl⟩ : ∃ f', f = f' + 1 := ⟨f - 1, by have := hln.out; omega⟩
              have HAT' := hide (hat.out.trans (RestAt.step hk5 hs))
              have KB := hide (blank_q hq' hl' hbig)
              have cl' := hq'.res.cells1.1.1
              have HBG := hide (blank_gd _ hl')
              have HD' := hide hd'
              clear hgd hq' hs hd' hk5 cl clz
              go_wp2_with fail
              refine KB.out.mono ?_
              rintro e y6 ⟨rfl, m6, hd6, hq6⟩
              have h6 := HBG.out
              rw [← hd6, HD'.out] at h6
              obtain ⟨⟨p, hp⟩, hl6⟩ := h6
              have e1 := congrArg List.length hp
              rw [List.length_append] at e1
              have hln' := hln.out
              have HQ6 := hide hq6
              have n1 := hq6.numAt
              have n0 := hq.out.numAt
              have HD6 := hide hd6
              clear hq6 hd6 KB cl'
              go_wp2_with fail
              refine ⟨⟨m6, f', a.1, a.2, HQ6, hide hl6, hide (by omega), hide (by rw [HAT'.out, HD6.out, HD'.out])⟩, ?_⟩
              rw [n1, n0]
              simp only [List.length_drop] at e1 hls
              omega
end Go.Proofs.YtnjbfhfjdhfdlaaGreatDoor
