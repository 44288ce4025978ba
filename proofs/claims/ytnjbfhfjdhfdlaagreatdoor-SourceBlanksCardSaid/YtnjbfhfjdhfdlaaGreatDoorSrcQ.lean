/- The closure that read defers: it takes a panic of the reader for the place of a token. read: its states, its door, and its methods as it sees them. -/
import Derived.Test.YtnjbfhfjdhfdlaaGreatDoorSrcLineR
import Derived.Test.YtnjbfhfjdhfdlaaGreatDoorSrcToks
import Derived.Recover
namespace Go.Proofs.YtnjbfhfjdhfdlaaGreatDoor
open Go.RowKit

/-- the three variables of read's results -/
structure Res3 (b : Nat) (p l c e : Value) (w : World) : Prop where
  r : w.heap[b]? = some (.cells #[p] 95 (0, 0))
  at_ : w.heap[b + 1]? = some (.cells #[l, c] 40 (0, 0))
  e : w.heap[b + 2]? = some (.cells #[e] 32 (0, 0))
theorem Res3.kept {b B : Nat} {p l c e : Value} {w y : World} (h : Res3 b p l c e w) (hb : Below B w y) (hB : b + 2 < B) : Res3 b p l c e y :=
  ⟨(hb.block _ (by omega)).trans h.r, (hb.block _ (by omega)).trans h.at_, (hb.block _ (by omega)).trans h.e⟩
section
variable {b : Nat} {p l c e : Value} {w : World}
theorem Res3.setR (h : Res3 b p l c e w) (v : Value) : Res3 b v l c e (w.setCell ⟨b, 0, none⟩ v) :=
  ⟨block_set h.r v, (Below.heap_setCell _ _ _ _ (by simp only; omega)).trans h.at_, (Below.heap_setCell _ _ _ _ (by simp only; omega)).trans h.e⟩
theorem Res3.setL (h : Res3 b p l c e w) (v : Value) : Res3 b p v c e (w.setCell ⟨b + 1, 0, none⟩ v) :=
  ⟨(Below.heap_setCell _ _ _ _ (by simp only; omega)).trans h.r, block_set h.at_ v, (Below.heap_setCell _ _ _ _ (by simp only; omega)).trans h.e⟩
theorem Res3.setC (h : Res3 b p l c e w) (v : Value) : Res3 b p l v e (w.setCell ⟨b + 1, 1, none⟩ v) :=
  ⟨(Below.heap_setCell _ _ _ _ (by simp only; omega)).trans h.r, block_set h.at_ v, (Below.heap_setCell _ _ _ _ (by simp only; omega)).trans h.e⟩
theorem Res3.setE (h : Res3 b p l c e w) (v : Value) : Res3 b p l c v (w.setCell ⟨b + 2, 0, none⟩ v) :=
  ⟨(Below.heap_setCell _ _ _ _ (by simp only; omega)).trans h.r, (Below.heap_setCell _ _ _ _ (by simp only; omega)).trans h.at_, block_set h.e v⟩
theorem Res3.cells (h : Res3 b p l c e w) : (w.cell? ⟨b, 0, none⟩ = some p ∧ w.cell? ⟨b + 1, 0, none⟩ = some l ∧ w.cell? ⟨b + 1, 1, none⟩ = some c ∧ w.cell? ⟨b + 2, 0, none⟩ = some e) ∧ (w.frozen? ⟨b, 0, none⟩ = false ∧ w.frozen? ⟨b + 1, 0, none⟩ = false ∧ w.frozen? ⟨b + 1, 1, none⟩ = false ∧ w.frozen? ⟨b + 2, 0, none⟩ = false) :=
  ⟨⟨(Joins.cell_of_block h.r 0).trans rfl, (Joins.cell_of_block h.at_ 0).trans rfl, (Joins.cell_of_block h.at_ 1).trans rfl, (Joins.cell_of_block h.e 0).trans rfl⟩, block_unfrozen h.r 0, block_unfrozen h.at_ 0, block_unfrozen h.at_ 1, block_unfrozen h.e 0⟩
end
set_option maxRecDepth 100000 in
set_option maxHeartbeats 4000000 in
theorem catch_any (b : Nat) (p l c e0 : Value) (x y : Int) (w : World) (h : Res3 b p l c e0 w) :
    CallsD Tryz.prog 82 #[.pointer (some ⟨b, 0, none⟩), .pointer (some ⟨b + 1, 0, none⟩), .pointer (some ⟨b + 2, 0, none⟩)] (.panicking [{ v := .iface 131 (.agg #[.int .i64 x, .int .i64 y]), recovered := false }]) w fun e u' w' =>
      e = .returned (.tuple #[]) ∧ u' = .panicking [{ v := .iface 131 (.agg #[.int .i64 x, .int .i64 y]), recovered := true }] ∧ Below b w w' ∧ Res3 b (.pointer none) (.int .i64 x) (.int .i64 y) (.int .i64 7) w' := by
  have HH := hide h
  have hta : ∀ w : World, (Instr.typeAssert (.iface 131 (.agg #[.int .i64 x, .int .i64 y])) 20 131 true).run Tryz.prog w = .ok (.tuple #[.agg #[.int .i64 x, .int .i64 y], .bool true]) w := fun w => by kernel_rfl
  refine callsD_of_wpS Tryz.func82 rfl fun c₀ cs hu => ?_
  rw [show (#[Value.pointer (some ⟨b, 0, none⟩), .pointer (some ⟨b + 1, 0, none⟩), .pointer (some ⟨b + 2, 0, none⟩)] : Array Value) ++ Array.replicate (Tryz.f82.ntmps - (#[Value.pointer (some ⟨b, 0, none⟩), .pointer (some ⟨b + 1, 0, none⟩), .pointer (some ⟨b + 2, 0, none⟩)] : Array Value).size) undef = #[.pointer (some ⟨b, 0, none⟩), .pointer (some ⟨b + 1, 0, none⟩), .pointer (some ⟨b + 2, 0, none⟩), undef, undef, undef, undef, undef, undef, undef, undef, undef, undef, undef, undef, undef, undef, undef] from rfl]
  apply wpS_seq
  apply wpS_region
  simp [wpOpsS, go_sem, recoverD, hu, Exit.thenS]
  refine wpS_of_wp ?_
  go_wp2_with fail
  obtain ⟨V, hV, hVs, hVb, hVh⟩ := boxed w (.cells #[.int .i64 x, .int .i64 y] 131)
  have hb2 : b + 2 < w.heap.size := (Array.getElem?_eq_some_iff.1 h.e).1
  have r0 := HH.out.kept hVb hb2
  have r1 := r0.setR (.pointer none)
  have r2 := r1.setL (.int .i64 x)
  have r3 := r2.setC (.int .i64 y)
  have r4 := hide (r3.setE (.int .i64 7))
  obtain ⟨f0, g0⟩ := r0.cells
  obtain ⟨f1, g1⟩ := r1.cells
  obtain ⟨f2, g2⟩ := r2.cells
  obtain ⟨f3, g3⟩ := r3.cells
  have d0 : V.cell? ⟨w.heap.size, 0, none⟩ = some (.int .i64 x) ∧ V.cell? ⟨w.heap.size, 1, none⟩ = some (.int .i64 y) := ⟨(Joins.cell_of_block hVh 0).trans rfl, (Joins.cell_of_block hVh 1).trans rfl⟩
  have hVh1 : (V.setCell ⟨b, 0, none⟩ (.pointer none)).heap[w.heap.size]? = some (.cells #[.int .i64 x, .int .i64 y] 131 (0, 0)) := (Below.heap_setCell _ _ _ _ (by simp only; omega)).trans hVh
  have d1 : (V.setCell ⟨b, 0, none⟩ (.pointer none)).cell? ⟨w.heap.size, 0, none⟩ = some (.int .i64 x) ∧ (V.setCell ⟨b, 0, none⟩ (.pointer none)).cell? ⟨w.heap.size, 1, none⟩ = some (.int .i64 y) := ⟨(Joins.cell_of_block hVh1 0).trans rfl, (Joins.cell_of_block hVh1 1).trans rfl⟩
  have HB := hide (((((hVb.mono (show b ≤ w.heap.size by omega)).setCell (p := ⟨b, 0, none⟩) (Nat.le_refl _) (.pointer none)).setCell (p := ⟨b + 1, 0, none⟩) (by simp only; omega) (.int .i64 x)).setCell (p := ⟨b + 1, 1, none⟩) (by simp only; omega) (.int .i64 y)).setCell (p := ⟨b + 2, 0, none⟩) (by simp only; omega) (.int .i64 7))
  rw [← hV]
  clear hV hVs hVb hVh h HH r0 r1 r2 r3 hVh1 hta
  go_region
  all_goals
    refine ⟨rfl, _, rfl, _, ?_, rfl, rfl, ?_, ?_⟩
    · simp [results, Tryz.results82, go_sem]
    · exact HB.out.drew
    · exact ⟨r4.out.r, r4.out.at_, r4.out.e⟩
set_option maxRecDepth 100000 in
set_option maxHeartbeats 4000000 in
theorem catch_idle (b : Nat) (w : World) :
    CallsD Tryz.prog 82 #[.pointer (some ⟨b, 0, none⟩), .pointer (some ⟨b + 1, 0, none⟩), .pointer (some ⟨b + 2, 0, none⟩)] .returning w fun e u' w' => e = .returned (.tuple #[]) ∧ u' = .returning ∧ w' = w := by
  refine callsD_of_wpS Tryz.func82 rfl fun c₀ cs hu => ?_
  rw [show (#[Value.pointer (some ⟨b, 0, none⟩), .pointer (some ⟨b + 1, 0, none⟩), .pointer (some ⟨b + 2, 0, none⟩)] : Array Value) ++ Array.replicate (Tryz.f82.ntmps - (#[Value.pointer (some ⟨b, 0, none⟩), .pointer (some ⟨b + 1, 0, none⟩), .pointer (some ⟨b + 2, 0, none⟩)] : Array Value).size) undef = #[.pointer (some ⟨b, 0, none⟩), .pointer (some ⟨b + 1, 0, none⟩), .pointer (some ⟨b + 2, 0, none⟩), undef, undef, undef, undef, undef, undef, undef, undef, undef, undef, undef, undef, undef, undef, undef] from rfl]
  apply wpS_seq
  apply wpS_region
  simp [wpOpsS, go_sem, recoverD, hu, Exit.thenS]
  refine wpS_of_wp ?_
  go_wp2_with fail
  cases c₀
  simp_all [bodyPostS, results, Tryz.results82]
end Go.Proofs.YtnjbfhfjdhfdlaaGreatDoor
namespace Go.Proofs.YtnjbfhfjdhfdlaaGreatDoor
open Go.RowKit

/-- what read leaves -/
def ReadPost (w : World) (x : TRes) (e : Ending) (w' : World) : Prop :=
  Below w.heap.size w w' ∧ match x with
    | .bad a c => e = .returned (.tuple #[.pointer none, .agg #[.int .i64 a, .int .i64 c], .int .i64 7])
    | .good L => match readR L with
      | .ok (a, _) => ∃ (rb n : Nat) (tv : Value), n ≤ 1000000 ∧ w.heap.size ≤ rb ∧ e = .returned (.tuple #[.pointer (some ⟨rb, 0, none⟩), .agg #[.int .i64 0, .int .i64 0], .int .i64 0]) ∧ RSt rb tv L n a.1 a.2 w'
      | .error q => e = .returned (.tuple #[.pointer none, .agg #[.int .i64 q.1, .int .i64 q.2], .int .i64 7])
/-- the reader of a text, as read works with it -/
structure Rq (w : World) (b rb : Nat) (tv : Value) (L : List TokD) (n : Nat) (h : HouseP) (c : SheetP) (x : World) : Prop where
  bel : Below b w x
  res : Res3 b (.pointer (some ⟨rb, 0, none⟩)) (.int .i64 0) (.int .i64 0) (.int .i64 0) x
  st : RSt rb tv L n h c x
  lt : b + 2 < rb
section
variable {w : World} {b rb : Nat} {tv : Value} {L : List TokD} {n : Nat} {h : HouseP} {c : SheetP} {x y : World}
theorem Rq.step {m : Nat} {h' : HouseP} {c' : SheetP} (hq : Rq w b rb tv L n h c x) (hb : Below rb x y) (hst : RSt rb tv L m h' c' y) : Rq w b rb tv L m h' c' y :=
  ⟨hq.bel.trans (hb.mono (by have := hq.lt; omega)), hq.res.kept hb hq.lt, hst, hq.lt⟩
theorem Rq.rlt (hq : Rq w b rb tv L n h c x) : rb < x.heap.size := by
  obtain ⟨S, R, C, A, hin, _⟩ := hq.st
  exact hin.rd.lt
theorem Rq.below (hq : Rq w b rb tv L n h c x) (hg : x.grownBy y (some rb)) : Below rb x y := Below.grown (Below.refl _ _) hg (Nat.le_of_lt hq.rlt) (fun k hk => by injection hk with hk; omega)
theorem Rq.ctx (hq : Rq w b rb tv L n h c x) (ht : TabsS w) (hb : b = w.heap.size) : Ctx w rb x := ⟨ht, hb ▸ hq.bel, by have := hq.lt; omega⟩
theorem Rq.more (hq : Rq w b rb tv L n h c x) (hb : Below x.heap.size x y) : Rq w b rb tv L n h c y := by
  have hl := hq.rlt
  obtain ⟨S, R, C, A, hin, hS, hR, hC, hA⟩ := hq.st
  exact hq.step (hb.mono (Nat.le_of_lt hl)) ⟨S, R, C, A, hin.kept (grown_of_below hb) (hin.rd.more hb) (Nat.le_refl _), hS, hR, hC, hA⟩
theorem Res3.cells1 {b : Nat} {p l c e : Value} {w : World} (h : Res3 b p l c e w) : (w.cell? ⟨b, 0, none⟩ = some p ∧ w.cell? ⟨b + 1, 0, none⟩ = some l ∧ w.cell? ⟨b + 1, 1, none⟩ = some c ∧ w.cell? ⟨b + 1 + 1, 0, none⟩ = some e) ∧ (w.frozen? ⟨b, 0, none⟩ = false ∧ w.frozen? ⟨b + 1, 0, none⟩ = false ∧ w.frozen? ⟨b + 1, 1, none⟩ = false ∧ w.frozen? ⟨b + 1 + 1, 0, none⟩ = false) := h.cells
theorem Rq.len (hq : Rq w b rb tv L n h c x) (hb : Below rb x y) : Below b w y ∧ Res3 b (.pointer (some ⟨rb, 0, none⟩)) (.int .i64 0) (.int .i64 0) (.int .i64 0) y := ⟨hq.bel.trans (hb.mono (by have := hq.lt; omega)), hq.res.kept hb hq.lt⟩
/-- what a method of the reader leaves, as read sees it -/
def QPost {α : Type} (w : World) (b rb : Nat) (tv : Value) (L : List TokD) (h : HouseP) (c : SheetP) (val : α → Value) (x : Rd α) (e : Ending) (y : World) : Prop :=
  match x with
  | .ok (a, r) => e = .returned (val a) ∧ ∃ m, L.drop m = r ∧ Rq w b rb tv L m h c y
  | .error q => e = .panicked [{ v := .iface 131 (.agg #[.int .i64 q.1, .int .i64 q.2]), recovered := false }] ∧ Below b w y ∧ Res3 b (.pointer (some ⟨rb, 0, none⟩)) (.int .i64 0) (.int .i64 0) (.int .i64 0) y
theorem QPost.of {α : Type} {val : α → Value} {xr : Rd α} (hq : Rq w b rb tv L n h c x) (hl : Last5 (L.drop n)) (hle : ∀ a r, xr = .ok (a, r) → r.length ≤ (L.drop n).length) {f : FuncId} {args : Array Value} (K : ∀ S R C A, RIn rb tv L n h.name h.height S R C A x → Calls Tryz.prog f args x (RPost rb tv L (memRest h.name h.height S R C A) val xr x)) : Calls Tryz.prog f args x (QPost w b rb tv L h c val xr) := by
  obtain ⟨S, R, C, A, hin, hS, hR, hC, hA⟩ := hq.st
  refine (K S R C A hin).mono ?_
  rintro e y ⟨hg, hx⟩
  have hb := hq.below hg
  unfold QPost
  cases hxr : xr with
  | error q => rw [hxr] at hx; exact ⟨hx, hq.len hb⟩
  | ok v =>
    obtain ⟨a, r⟩ := v
    rw [hxr] at hx
    obtain ⟨h1, m, h2, h3⟩ := hx
    have e1 := hle a r hxr
    have e2 := congrArg List.length h2
    obtain ⟨_, _, _, _, _, hml⟩ := hl.head
    simp only [List.length_drop] at e1 e2
    exact ⟨h1, m, h2, hq.step hb ⟨S, R, C, A, hin.kept hg h3 (by omega), hS, hR, hC, hA⟩⟩
theorem now_q (hq : Rq w b rb tv L n h c x) {t : TokD} (hg : L[n]? = some t) : Calls Tryz.prog 87 #[.pointer (some ⟨rb, 0, none⟩)] x (Gives x t.val) := by
  obtain ⟨S, R, C, A, hin, _⟩ := hq.st
  exact now_any hin.rd hg
theorem Rq.numAt (hq : Rq w b rb tv L n h c x) : Go.Proofs.YtnjbfhfjdhfdlaaGreatDoor.numAt x ⟨rb, 1, none⟩ = n := by
  obtain ⟨S, R, C, A, hin, _⟩ := hq.st
  exact hin.rd.numAt
theorem blank_q (hq : Rq w b rb tv L n h c x) (hl : Last5 (L.drop n)) (hbig : L.length ≤ 1000000) : Calls Tryz.prog 83 #[.pointer (some ⟨rb, 0, none⟩)] x (QPost w b rb tv L h c (fun _ : Unit => .tuple #[]) (.ok ((), blankR (L.drop n)))) :=
  QPost.of hq hl (fun _ r e => by
    injection e with e
    injection e with _ e
    rw [← e]
    obtain ⟨p, hp⟩ := (blank_gd _ hl).1
    have := congrArg List.length hp
    rw [List.length_append] at this
    omega) (fun _ _ _ _ hin => blank_any hin.rd hl hbig)
theorem take_q (hq : Rq w b rb tv L n h c x) (hl : Last5 (L.drop n)) (hbig : L.length ≤ 1000000) (k : Int) (vt : Value) (ok : List UInt8 → Bool) (ht : TextsOf x vt ok) : Calls Tryz.prog 84 #[.pointer (some ⟨rb, 0, none⟩), .int .i64 k, vt] x (QPost w b rb tv L h c Value.string (takeR k ok (L.drop n))) :=
  QPost.of hq hl (fun a r e => Nat.le_of_lt (take_less k ok _ a r e)) (fun _ _ _ _ hin => take_any hin.rd hl hbig k vt ok ht)
theorem name_q (hq : Rq w b rb tv L n h c x) (hl : Last5 (L.drop n)) (hbig : L.length ≤ 1000000) : Calls Tryz.prog 85 #[.pointer (some ⟨rb, 0, none⟩)] x (QPost w b rb tv L h c Value.string (nameR (L.drop n))) :=
  QPost.of hq hl (fun _ _ e => Nat.le_of_lt (name_less' e)) (fun _ _ _ _ hin => name_any hin.rd hl hbig)
theorem number_q (hq : Rq w b rb tv L n h c x) (hl : Last5 (L.drop n)) (hbig : L.length ≤ 1000000) (hts : ∀ t ∈ L, t.text.size ≤ 1000000) (ht : TabsS w) (hb : b = w.heap.size) : Calls Tryz.prog 86 #[.pointer (some ⟨rb, 0, none⟩)] x (QPost w b rb tv L h c (fun v : Int => .int .i64 v) (numR (L.drop n))) :=
  QPost.of hq hl (fun a r e => Nat.le_of_lt (num_less _ a r e)) (fun _ _ _ _ hin => number_any hin.rd hl hbig hts (hq.ctx ht hb))
theorem line_q (hq : Rq w b rb tv L n h c x) (hl : Last5 (L.drop n)) (hbig : L.length ≤ 1000000) (hts : ∀ t ∈ L, t.text.size ≤ 1000000) (ht : TabsS w) (hb : b = w.heap.size) : Calls Tryz.prog 88 #[.pointer (some ⟨rb, 0, none⟩)] x fun e y =>
    match stmtR h c (L.drop n) with
    | .ok (a, r) => e = .returned (.tuple #[]) ∧ ∃ m, L.drop m = r ∧ Rq w b rb tv L m a.1 a.2 y
    | .error q => e = .panicked [{ v := .iface 131 (.agg #[.int .i64 q.1, .int .i64 q.2]), recovered := false }] ∧ Below b w y ∧ Res3 b (.pointer (some ⟨rb, 0, none⟩)) (.int .i64 0) (.int .i64 0) (.int .i64 0) y := by
  refine (line_any hq.st hl hbig hts (hq.ctx ht hb)).mono ?_
  rintro e y ⟨hb', hx⟩
  cases hs : stmtR h c (L.drop n) with
  | error q => rw [hs] at hx; exact ⟨hx, hq.len hb'⟩
  | ok v =>
    obtain ⟨a, r⟩ := v
    rw [hs] at hx
    obtain ⟨h1, m, h2, h3⟩ := hx
    exact ⟨h1, m, h2, hq.step hb' h3⟩
/-- a write into a block beneath the reader, that is not the tokens' -/
theorem RSt.putAt {k : Nat} (hst : RSt rb tv L n h c x) (hk : k < rb) (hkt : ∀ tb cap, tv = .slice (some ⟨tb, 0, none⟩) L.length cap → k ≠ tb) (i : Nat) (v : Value) : RSt rb tv L n h c (x.setCell ⟨k, i, none⟩ v) := by
  obtain ⟨S, R, C, A, hin, hS, hR, hC, hA⟩ := hst
  exact ⟨S, R, C, A, ⟨hin.rd.putOther (by omega) hkt i v, hin.rows.kept (grown_put (World.grownBy.refl x (some k))) (fun j hj => by injection hj with hj; omega), hin.low, hin.cnt⟩, hS, hR, hC, hA⟩
theorem Rq.setName (hq : Rq w b rb tv L n h c x) (nm : ByteArray) : (∃ v, x.cell? ⟨rb, 2, none⟩ = some v) ∧ x.frozen? ⟨rb, 2, none⟩ = false ∧ Rq w b rb tv L n { h with name := nm } c (x.setCell ⟨rb, 2, none⟩ (.string nm)) := by
  obtain ⟨S, R, C, A, hin, hS, hR, hC, hA⟩ := hq.st
  refine ⟨⟨_, (hin.rd.cellr 0).trans rfl⟩, hin.rd.free 2, hq.step ((Below.refl rb x).setCell (p := ⟨rb, 2, none⟩) (Nat.le_refl _) _) ⟨S, R, C, A, ⟨hin.rd.put 0 (.string nm), hin.rows.kept (grown_put (World.grownBy.refl x (some rb))) (fun j hj => by injection hj with hj; omega), hin.low, hin.cnt⟩, hS, hR, hC, hA⟩⟩
theorem Rq.setHeight (hq : Rq w b rb tv L n h c x) (v : Int) : (∃ v, x.cell? ⟨rb, 3, none⟩ = some v) ∧ x.frozen? ⟨rb, 3, none⟩ = false ∧ Rq w b rb tv L n { h with height := v } c (x.setCell ⟨rb, 3, none⟩ (.int .i64 v)) := by
  obtain ⟨S, R, C, A, hin, hS, hR, hC, hA⟩ := hq.st
  refine ⟨⟨_, (hin.rd.cellr 1).trans rfl⟩, hin.rd.free 3, hq.step ((Below.refl rb x).setCell (p := ⟨rb, 3, none⟩) (Nat.le_refl _) _) ⟨S, R, C, A, ⟨hin.rd.put 1 (.int .i64 v), hin.rows.kept (grown_put (World.grownBy.refl x (some rb))) (fun j hj => by injection hj with hj; omega), hin.low, hin.cnt⟩, hS, hR, hC, hA⟩⟩
end
/-- where the loop over the lines stands -/
def RestAt (f : Nat) (h : HouseP) (c : SheetP) (ts : List TokD) : Rd (HouseP × SheetP) := if kindT ts = 5 then .ok ((h, c), ts) else bindR (stmtR h c ts) fun x r => restR f x.1 x.2 r
theorem RestAt.done {f : Nat} {h : HouseP} {c : SheetP} {ts : List TokD} (hk : kindT ts = 5) : RestAt f h c ts = .ok ((h, c), ts) := by rw [RestAt, if_pos hk]
theorem RestAt.err {f : Nat} {h : HouseP} {c : SheetP} {ts : List TokD} {q : Int × Int} (hk : ¬ kindT ts = 5) (hs : stmtR h c ts = .error q) : RestAt f h c ts = .error q := by rw [RestAt, if_neg hk, hs]; rfl
theorem RestAt.step {f : Nat} {h : HouseP} {c : SheetP} {ts r : List TokD} {a : HouseP × SheetP} (hk : ¬ kindT ts = 5) (hs : stmtR h c ts = .ok (a, r)) : RestAt (f + 1) h c ts = RestAt f a.1 a.2 (blankR r) := by rw [RestAt, if_neg hk, hs]; rfl
theorem RSt.start {rb : Nat} {tv : Value} {L : List TokD} {x : World} (hrd : Rd0 rb tv L 0 [.string ⟨#[]⟩, .int .i64 0, .slice none 0 0, .slice none 0 0, .slice none 0 0, .slice none 0 0] x) (hlow : ∀ tb cap, tv = .slice (some ⟨tb, 0, none⟩) L.length cap → tb < rb) : RSt rb tv L 0 ⟨⟨#[]⟩, 0, [], []⟩ ⟨[], []⟩ x := by
  refine ⟨⟨none, 0, []⟩, ⟨none, 0, []⟩, ⟨none, 0, []⟩, ⟨none, 0, []⟩, ⟨hrd, ⟨fun r hr => ?_, ?_⟩, hlow, fun r hr => ?_⟩, rfl, rfl, rfl, rfl⟩
  · simp only [memRows, List.flatMap_nil, List.append_nil, List.mem_cons, List.not_mem_nil, or_false] at hr
    rcases hr with rfl | rfl | rfl | rfl <;> exact World.ownsRow_nil _ _ _ _
  · unfold memRows
    refine List.pairwise_cons.2 ⟨fun _ _ k hk => by simp [Value.ownBlock, Sl.val] at hk, List.pairwise_cons.2 ⟨fun _ _ k hk => by simp [Value.ownBlock, Sl.val] at hk, List.pairwise_cons.2 ⟨fun _ _ k hk => by simp [Value.ownBlock, Sl.val] at hk, List.pairwise_cons.2 ⟨fun _ _ k hk => by simp [Value.ownBlock, Sl.val] at hk, List.Pairwise.nil⟩⟩⟩⟩
  · simp only [memRows, List.flatMap_nil, List.append_nil, List.mem_cons, List.not_mem_nil, or_false] at hr
    rcases hr with rfl | rfl | rfl | rfl <;> exact Nat.zero_le _
theorem tokCells_get : ∀ (L : List TokD) (i : Nat) (t : TokD), L[i]? = some t → ∀ (j : Nat) (u : Value), (TokD.cells t)[j]? = some u → (tokCells L)[i * 4 + j]? = some u
  | t :: L, 0, t', h, j, u, hu => by
    simp only [List.getElem?_cons_zero, Option.some.injEq] at h
    subst h
    have hj : j < (TokD.cells t).length := (List.getElem?_eq_some_iff.1 hu).1
    rw [Nat.zero_mul, Nat.zero_add, tokCells, List.flatMap_cons, List.getElem?_append_left hj]
    exact hu
  | t :: L, i + 1, t', h, j, u, hu => by
    have h1 := tokCells_get L i t' (by simpa using h) j u hu
    rw [tokCells, List.flatMap_cons, List.getElem?_append_right (by rw [show (TokD.cells t).length = 4 from rfl]; omega)]
    rw [show (i + 1) * 4 + j - (TokD.cells t).length = i * 4 + j by rw [show (TokD.cells t).length = 4 from rfl]; omega]
    exact h1
set_option maxRecDepth 100000 in
set_option maxHeartbeats 4000000 in
theorem door_panic {b : Nat} {p l c e : Value} {x : World} (h : Res3 b p l c e x) (q0 q1 : Int) {tmps : Array Value} (h2 : tmps[2]? = some (.pointer (some ⟨b, 0, none⟩))) (h3 : tmps[3]? = some (.pointer (some ⟨b + 1, 0, none⟩))) (h4 : tmps[4]? = some (.pointer (some ⟨b + 1 + 1, 0, none⟩))) {R : Ending → World → Prop}
    (hR : ∀ x', Below b x x' → R (.returned (.tuple #[.pointer none, .agg #[.int .i64 q0, .int .i64 q1], .int .i64 7])) x') :
    Leaves Tryz.prog Tryz.f44 tmps R [{ target := .fn (.func 82) #[.pointer (some ⟨b, 0, none⟩), .pointer (some ⟨b + 1, 0, none⟩), .pointer (some ⟨b + 1 + 1, 0, none⟩)], args := #[] }] (.panicking [{ v := .iface 131 (.agg #[.int .i64 q0, .int .i64 q1]), recovered := false }]) x := by
  refine leaves_cons (f := 82) (args := #[.pointer (some ⟨b, 0, none⟩), .pointer (some ⟨b + 1, 0, none⟩), .pointer (some ⟨b + 1 + 1, 0, none⟩)]) (by simp) (by simp [go_sem]) ?_
  refine (catch_any b p l c e q0 q1 x h).mono ?_
  rintro e1 u' x' ⟨rfl, rfl, hb, hr⟩
  obtain ⟨⟨c0, c1, c2, c3⟩, _⟩ := hr.cells1
  refine ⟨_, ?_, hR x' hb⟩
  simp [results, Tryz.results44, go_sem, h2, h3, h4, c0, c1, c2, c3]
theorem door_return {b : Nat} {p l c e : Value} {x : World} (h : Res3 b p l c e x) {tmps : Array Value} (h2 : tmps[2]? = some (.pointer (some ⟨b, 0, none⟩))) (h3 : tmps[3]? = some (.pointer (some ⟨b + 1, 0, none⟩))) (h4 : tmps[4]? = some (.pointer (some ⟨b + 1 + 1, 0, none⟩))) {R : Ending → World → Prop}
    (hR : R (.returned (.tuple #[p, .agg #[l, c], e])) x) :
    Leaves Tryz.prog Tryz.f44 tmps R [{ target := .fn (.func 82) #[.pointer (some ⟨b, 0, none⟩), .pointer (some ⟨b + 1, 0, none⟩), .pointer (some ⟨b + 1 + 1, 0, none⟩)], args := #[] }] .returning x := by
  refine leaves_cons (f := 82) (args := #[.pointer (some ⟨b, 0, none⟩), .pointer (some ⟨b + 1, 0, none⟩), .pointer (some ⟨b + 1 + 1, 0, none⟩)]) (by simp) (by simp [go_sem]) ?_
  refine (catch_idle b x).mono ?_
  rintro e1 u' x' ⟨rfl, rfl, rfl⟩
  obtain ⟨⟨c0, c1, c2, c3⟩, _⟩ := h.cells1
  refine ⟨_, ?_, hR⟩
  simp [results, Tryz.results44, go_sem, h2, h3, h4, c0, c1, c2, c3]

theorem ReadPost.err {s : ByteArray} {w x : World} {b : Nat} {L : List TokD} {q : Int × Int} (hb : b = w.heap.size) (htk : toks (bs s) = .good L) (he : readR L = .error q) (hbel : Below b w x) : ReadPost w (toks (bs s)) (.returned (.tuple #[.pointer none, .agg #[.int .i64 q.1, .int .i64 q.2], .int .i64 7])) x := by
  refine ⟨hb ▸ hbel, ?_⟩
  rw [htk]
  simp only [he]
theorem ReadPost.good {s : ByteArray} {w x : World} {b rb n : Nat} {tv : Value} {L r : List TokD} {h : HouseP} {c : SheetP} (hb : b = w.heap.size) (htk : toks (bs s) = .good L) (he : readR L = .ok ((h, c), r)) (hbel : Below b w x) (hrb : b + 2 < rb) (hn : n ≤ 1000000) (hst : RSt rb tv L n h c x) : ReadPost w (toks (bs s)) (.returned (.tuple #[.pointer (some ⟨rb, 0, none⟩), .agg #[.int .i64 0, .int .i64 0], .int .i64 0])) x := by
  refine ⟨hb ▸ hbel, ?_⟩
  rw [htk]
  simp only [he]
  exact ⟨rb, n, tv, hn, by omega, rfl, hst⟩
abbrev houseW : List UInt8 → Bool := fun w => decide (w = wHouse)
section
variable {L r r2 r3 r4 : List TokD} {q : Int × Int} {s s2 nm : ByteArray} {v : Int}
theorem readR_take (h : takeR 1 houseW (blankR L) = .error q) : readR L = .error q := by rw [readR, headR, h]; rfl
theorem readR_name (h : takeR 1 houseW (blankR L) = .ok (s, r)) (h2 : nameR r = .error q) : readR L = .error q := by rw [readR, headR, h]; simp only [bindR]; rw [h2]
theorem readR_num (h : takeR 1 houseW (blankR L) = .ok (s, r)) (h2 : nameR r = .ok (nm, r2)) (h3 : numR r2 = .error q) : readR L = .error q := by rw [readR, headR, h]; simp only [bindR]; rw [h2]; simp only; rw [h3]
theorem readR_end (h : takeR 1 houseW (blankR L) = .ok (s, r)) (h2 : nameR r = .ok (nm, r2)) (h3 : numR r2 = .ok (v, r3)) (h4 : endR r3 = .error q) : readR L = .error q := by rw [readR, headR, h]; simp only [bindR]; rw [h2]; simp only; rw [h3]; simp only; rw [h4]
theorem readR_rest (h : takeR 1 houseW (blankR L) = .ok (s, r)) (h2 : nameR r = .ok (nm, r2)) (h3 : numR r2 = .ok (v, r3)) (h4 : endR r3 = .ok (s2, r4)) : readR L = restR L.length ⟨nm, v, [], []⟩ ⟨[], []⟩ r4 := by rw [readR, headR, h]; simp only [bindR]; rw [h2]; simp only; rw [h3]; simp only; rw [h4]
end
def sHouse : ByteArray := ⟨#[104, 111, 117, 115, 101]⟩
theorem house_texts (x : ByteArray) : houseW (bs x) = true ↔ x ∈ [sHouse] := by
  have e1 : wHouse = bs sHouse := by kernel_rfl
  simp only [houseW, e1, bs_iff, decide_eq_true_eq, List.mem_cons, List.not_mem_nil, or_false]
end Go.Proofs.YtnjbfhfjdhfdlaaGreatDoor
