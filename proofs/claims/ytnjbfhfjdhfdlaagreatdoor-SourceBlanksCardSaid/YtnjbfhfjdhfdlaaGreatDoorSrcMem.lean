/- The reader of sources: its block, its tokens, and its small methods. The numbers of sources: Atoi, and the reader's method number. The reader's methods name, blank and numbers. The reader's method numbers: it fills cells of one block. What the reader of sources holds: its rows, and how one of them turns. -/
import Derived.Test.YtnjbfhfjdhfdlaaGreatDoorDecTokens
import Derived.Test.YtnjbfhfjdhfdlaaGreatDoorSrcToks
import Derived.Deep.DeepCutAuto
import Derived.Lib.AtoiAll
import Derived.Lib.SmallJoins
import Derived.Deep.AppendLies
namespace Go.Proofs.YtnjbfhfjdhfdlaaGreatDoor
open Go.RowKit

theorem grown_put {w wr : World} {g i : Nat} {v : Value} (h : w.grownBy wr (some g)) : w.grownBy (wr.setCell ⟨g, i, none⟩ v) (some g) :=
  ⟨h.os, h.tape, h.output, by simp [World.setCell]; exact h.size, fun k hk hne => (Below.heap_setCell _ _ _ _ (fun e => hne (by simp only at e; rw [e]))).trans (h.block k hk hne)⟩
theorem grown_below {w wr y : World} {g : Option Nat} (h : w.grownBy wr g) (hb : Below wr.heap.size wr y) : w.grownBy y g :=
  ⟨hb.os.trans h.os, hb.tape.trans h.tape, hb.output.trans h.output, Nat.le_trans h.size hb.size, fun k hk hne => (hb.block k (Nat.lt_of_lt_of_le hk h.size)).trans (h.block k hk hne)⟩
theorem grown_trans {w x y : World} {g : Option Nat} (h : w.grownBy x g) (h2 : x.grownBy y g) : w.grownBy y g :=
  ⟨h2.os.trans h.os, h2.tape.trans h.tape, h2.output.trans h.output, Nat.le_trans h.size h2.size, fun k hk hne => (h2.block k (Nat.lt_of_lt_of_le hk h.size) hne).trans (h.block k hk hne)⟩
theorem grown_of_below {w y : World} {g : Option Nat} (hb : Below w.heap.size w y) : w.grownBy y g := grown_below (World.grownBy.refl w g) hb
/-- the reader's block: the tokens, the place of the next one, and what was read -/
structure Rd0 (rb : Nat) (tv : Value) (L : List TokD) (n : Nat) (rest : List Value) (x : World) : Prop where
  box : x.heap[rb]? = some (.cells (tv :: .int .i64 n :: rest).toArray 100 (0, 0))
  toks : ∃ tb cap, tv = .slice (some ⟨tb, 0, none⟩) L.length cap ∧ L.length ≤ cap ∧ cap ≤ maxLen ∧ tb ≠ rb ∧ tb < x.heap.size ∧ ∀ i t, L[i]? = some t → ∀ j u, (TokD.cells t)[j]? = some u → x.cell? ⟨tb, i * 4 + j, none⟩ = some u
section
variable {rb : Nat} {tv : Value} {L : List TokD} {n : Nat} {rest : List Value} {x y : World}
theorem Rd0.lt (h : Rd0 rb tv L n rest x) : rb < x.heap.size := (Array.getElem?_eq_some_iff.1 h.box).1
theorem Rd0.grown (h : Rd0 rb tv L n rest x) {m : Nat} {rest' : List Value} (hg : x.grownBy y (some rb)) (hb : y.heap[rb]? = some (.cells (tv :: .int .i64 m :: rest').toArray 100 (0, 0))) : Rd0 rb tv L m rest' y := by
  obtain ⟨tb, cap, h1, h2, h3, h4, h5, h6⟩ := h.toks
  exact ⟨hb, tb, cap, h1, h2, h3, h4, Nat.lt_of_lt_of_le h5 hg.size, fun i t hi j u hu => (World.cell?_of_block (a := ⟨tb, i * 4 + j, none⟩) (hg.block tb h5 (fun e => h4 (by injection e)))).trans (h6 i t hi j u hu)⟩
theorem Rd0.more (h : Rd0 rb tv L n rest x) (hb : Below x.heap.size x y) : Rd0 rb tv L n rest y := h.grown (grown_of_below hb) ((hb.block rb h.lt).trans h.box)
theorem Rd0.cell0 (h : Rd0 rb tv L n rest x) : x.cell? ⟨rb, 0, none⟩ = some tv := (Joins.cell_of_block h.box 0).trans rfl
theorem Rd0.cell1 (h : Rd0 rb tv L n rest x) : x.cell? ⟨rb, 1, none⟩ = some (.int .i64 n) := (Joins.cell_of_block h.box 1).trans rfl
theorem Rd0.free (h : Rd0 rb tv L n rest x) (i : Nat) : x.frozen? ⟨rb, i, none⟩ = false := block_unfrozen h.box i
theorem Rd0.setAt (h : Rd0 rb tv L n rest x) (m : Nat) : Rd0 rb tv L m rest (x.setCell ⟨rb, 1, none⟩ (.int .i64 m)) := by
  refine h.grown (grown_put (World.grownBy.refl x _)) ?_
  rw [block_set h.box]
  simp
theorem Rd0.tok (h : Rd0 rb tv L n rest x) {t : TokD} (ht : L[n]? = some t) : ∃ tb cap, tv = .slice (some ⟨tb, 0, none⟩) L.length cap ∧ L.length ≤ cap ∧ cap ≤ maxLen ∧ tb < x.heap.size ∧
    ∀ z : After x.heap.size x, z.val.cell? ⟨tb, n * 4, none⟩ = some (.int .i64 t.kind) ∧ z.val.cell? ⟨tb, n * 4 + 1, none⟩ = some (.string t.text) ∧ z.val.cell? ⟨tb, n * 4 + 2, none⟩ = some (.int .i64 t.line) ∧ z.val.cell? ⟨tb, n * 4 + 3, none⟩ = some (.int .i64 t.col) := by
  obtain ⟨tb, cap, h1, h2, h3, h4, h5, h6⟩ := h.toks
  exact ⟨tb, cap, h1, h2, h3, h5, fun z => ⟨z.cell (h6 n t ht 0 _ rfl) h5, z.cell (h6 n t ht 1 _ rfl) h5, z.cell (h6 n t ht 2 _ rfl) h5, z.cell (h6 n t ht 3 _ rfl) h5⟩⟩
end
/-- all that a store of four cells, and the load behind it, ask of the block -/
theorem four_all {z : World} {g : Nat} {a b c d : Value} {t : TypeId} (h : z.heap[g]? = some (.cells #[a, b, c, d] t (0, 0))) (p q r s : Value) :
    (z.cell? ⟨g, 0, none⟩ = some a ∧ z.cell? ⟨g, 1, none⟩ = some b ∧ z.cell? ⟨g, 2, none⟩ = some c ∧ z.cell? ⟨g, 3, none⟩ = some d) ∧ (∀ i, z.frozen? ⟨g, i, none⟩ = false) ∧
    ((z.setCell ⟨g, 0, none⟩ p).cell? ⟨g, 1, none⟩ = some b ∧ ∀ i, (z.setCell ⟨g, 0, none⟩ p).frozen? ⟨g, i, none⟩ = false) ∧
    (((z.setCell ⟨g, 0, none⟩ p).setCell ⟨g, 1, none⟩ q).cell? ⟨g, 2, none⟩ = some c ∧ ∀ i, ((z.setCell ⟨g, 0, none⟩ p).setCell ⟨g, 1, none⟩ q).frozen? ⟨g, i, none⟩ = false) ∧
    ((((z.setCell ⟨g, 0, none⟩ p).setCell ⟨g, 1, none⟩ q).setCell ⟨g, 2, none⟩ r).cell? ⟨g, 3, none⟩ = some d ∧ ∀ i, (((z.setCell ⟨g, 0, none⟩ p).setCell ⟨g, 1, none⟩ q).setCell ⟨g, 2, none⟩ r).frozen? ⟨g, i, none⟩ = false) ∧
    (((((z.setCell ⟨g, 0, none⟩ p).setCell ⟨g, 1, none⟩ q).setCell ⟨g, 2, none⟩ r).setCell ⟨g, 3, none⟩ s).cell? ⟨g, 0, none⟩ = some p ∧ ((((z.setCell ⟨g, 0, none⟩ p).setCell ⟨g, 1, none⟩ q).setCell ⟨g, 2, none⟩ r).setCell ⟨g, 3, none⟩ s).cell? ⟨g, 1, none⟩ = some q ∧
     ((((z.setCell ⟨g, 0, none⟩ p).setCell ⟨g, 1, none⟩ q).setCell ⟨g, 2, none⟩ r).setCell ⟨g, 3, none⟩ s).cell? ⟨g, 2, none⟩ = some r ∧ ((((z.setCell ⟨g, 0, none⟩ p).setCell ⟨g, 1, none⟩ q).setCell ⟨g, 2, none⟩ r).setCell ⟨g, 3, none⟩ s).cell? ⟨g, 3, none⟩ = some s) := by
  have h1 := block_set h (i := 0) p
  have h2 := block_set h1 (i := 1) q
  have h3 := block_set h2 (i := 2) r
  have h4 := block_set h3 (i := 3) s
  exact ⟨⟨(Joins.cell_of_block h 0).trans rfl, (Joins.cell_of_block h 1).trans rfl, (Joins.cell_of_block h 2).trans rfl, (Joins.cell_of_block h 3).trans rfl⟩, fun i => block_unfrozen h i,
    ⟨(Joins.cell_of_block h1 1).trans rfl, fun i => block_unfrozen h1 i⟩, ⟨(Joins.cell_of_block h2 2).trans rfl, fun i => block_unfrozen h2 i⟩, ⟨(Joins.cell_of_block h3 3).trans rfl, fun i => block_unfrozen h3 i⟩,
    ⟨(Joins.cell_of_block h4 0).trans rfl, (Joins.cell_of_block h4 1).trans rfl, (Joins.cell_of_block h4 2).trans rfl, (Joins.cell_of_block h4 3).trans rfl⟩⟩
def TokD.val (t : TokD) : Value := .agg #[.int .i64 t.kind, .string t.text, .int .i64 t.line, .int .i64 t.col]
set_option maxRecDepth 100000 in
set_option maxHeartbeats 4000000 in
theorem now_any {rb : Nat} {tv : Value} {L : List TokD} {n : Nat} {rest : List Value} {u : World} (h : Rd0 rb tv L n rest u) {t : TokD} (ht : L[n]? = some t) :
    Calls Tryz.prog 87 #[.pointer (some ⟨rb, 0, none⟩)] u (Gives u t.val) := by
  obtain ⟨W, hW, hWs, hWb, hWh⟩ := boxed u (.cells #[.int .i64 0, .string ⟨#[]⟩, .int .i64 0, .int .i64 0] 135)
  have hn := (List.getElem?_eq_some_iff.1 ht).1
  obtain ⟨tb, cap, rfl, hlc, hcm, htb, hce⟩ := (h.more hWb).tok ht
  unfold maxLen at hcm
  have hrb := (h.more hWb).lt
  have c0 := (h.more hWb).cell0
  have c1 := (h.more hWb).cell1
  have hn0 : (0 : Int) ≤ (n : Int) := by omega
  have hn1 : (n : Int) < (L.length : Int) := by omega
  have hce0 := hce (After.refl _ _)
  simp only [After.refl] at hce0
  have HW := hide hW
  have HB := hide hWb
  have hub : u.heap.size < W.heap.size := by omega
  have hst := four_all hWh (.int .i64 t.kind) (.string t.text) (.int .i64 t.line) (.int .i64 t.col)
  have HF := hide (((((hWb.setCell (p := ⟨u.heap.size, 0, none⟩) (Nat.le_refl _) (.int .i64 t.kind)).setCell (p := ⟨u.heap.size, 1, none⟩) (Nat.le_refl _) (.string t.text)).setCell (p := ⟨u.heap.size, 2, none⟩) (Nat.le_refl _) (.int .i64 t.line)).setCell (p := ⟨u.heap.size, 3, none⟩) (Nat.le_refl _) (.int .i64 t.col)))
  clear hW hWs ht h hn
  go_enter Tryz.func87, Tryz.ntmps87
  go_upto_region 1 with fail
  rw [← HW.out]
  go_region
  go_wp2_with fail
  refine bodyPost_ret (by simp [results, Tryz.results87, go_sem, hst]; try rfl) rfl ?_
  exact ⟨rfl, HF.out.drew⟩
theorem fld2 (k l c : Int) (b : ByteArray) (w : World) : (Instr.field 135 (.agg #[.int .i64 k, .string b, .int .i64 l, .int .i64 c]) 2).run Tryz.prog w = .ok (.agg #[.int .i64 l, .int .i64 c]) w := by kernel_rfl
theorem fld0 (k l c : Int) (b : ByteArray) (w : World) : (Instr.field 135 (.agg #[.int .i64 k, .string b, .int .i64 l, .int .i64 c]) 0).run Tryz.prog w = .ok (.int .i64 k) w := by kernel_rfl
theorem fld1 (k l c : Int) (b : ByteArray) (w : World) : (Instr.field 135 (.agg #[.int .i64 k, .string b, .int .i64 l, .int .i64 c]) 1).run Tryz.prog w = .ok (.string b) w := by kernel_rfl
set_option maxRecDepth 100000 in
set_option maxHeartbeats 4000000 in
theorem fail_any {rb : Nat} {tv : Value} {L : List TokD} {n : Nat} {rest : List Value} {u : World} (h : Rd0 rb tv L n rest u) {t : TokD} (ht : L[n]? = some t) :
    Calls Tryz.prog 119 #[.pointer (some ⟨rb, 0, none⟩)] u fun e w' => e = .panicked [{ v := .iface 131 (.agg #[.int .i64 t.line, .int .i64 t.col]), recovered := false }] ∧ Below u.heap.size u w' := by
  have KN := hide (Gives.first (now_any h ht))
  simp only [TokD.val] at KN
  have f2 := fld2
  clear h ht
  go_enter Tryz.func119, Tryz.ntmps119
  go_wp2_with (go_at_call 87; refine KN.out.mono ?_; rintro e w1 ⟨rfl, y, rfl⟩)
  exact ⟨rfl, rfl, y.below⟩
/-- what a method of the reader leaves: a value, or the panic at a token; of what was there, the reader's block alone has turned -/
def RPost {α : Type} (rb : Nat) (tv : Value) (L : List TokD) (rest : List Value) (val : α → Value) (x : Rd α) (u : World) (e : Ending) (w' : World) : Prop :=
  u.grownBy w' (some rb) ∧ match x with
    | .ok (a, r) => e = .returned (val a) ∧ ∃ n, L.drop n = r ∧ Rd0 rb tv L n rest w'
    | .error q => e = .panicked [{ v := .iface 131 (.agg #[.int .i64 q.1, .int .i64 q.2]), recovered := false }]
theorem drop_get {L r : List TokD} {n : Nat} {t : TokD} (h : L.drop n = t :: r) : L[n]? = some t ∧ L.drop (n + 1) = r := by
  have h1 : (L.drop n)[0]? = some t := by rw [h]; rfl
  rw [List.getElem?_drop] at h1
  refine ⟨by simpa using h1, ?_⟩
  have h2 : L.drop (n + 1) = (L.drop n).drop 1 := by rw [List.drop_drop]
  rw [h2, h]; rfl
/-- the texts that a token may have: all, or those of a list -/
def TextsOf (u : World) (v : Value) (ok : List UInt8 → Bool) : Prop :=
  (v = .slice none 0 0 ∧ ok = fun _ => true) ∨ ∃ (b off : Nat) (zs : List ByteArray) (c : Nat), v = .slice (some ⟨b, off, none⟩) zs.length c ∧ 0 < zs.length ∧ zs.length ≤ 1000 ∧ b < u.heap.size ∧ (∀ j, j < zs.length → u.cell? ⟨b, off + j, none⟩ = some (.string (zs.getD j ByteArray.empty))) ∧ ∀ x : ByteArray, ok (bs x) = Go.Lib.containsS zs x
set_option maxRecDepth 100000 in
set_option maxHeartbeats 4000000 in
theorem take_any {rb : Nat} {tv : Value} {L : List TokD} {n : Nat} {rest : List Value} {u : World} (h : Rd0 rb tv L n rest u) (hl : Last5 (L.drop n)) (hbig : L.length ≤ 1000000) (k : Int) (vt : Value) (ok : List UInt8 → Bool) (ht : TextsOf u vt ok) :
    Calls Tryz.prog 84 #[.pointer (some ⟨rb, 0, none⟩), .int .i64 k, vt] u (RPost rb tv L rest Value.string (takeR k ok (L.drop n)) u) := by
  obtain ⟨t, r, htr⟩ : ∃ t r, L.drop n = t :: r := by
    cases hd : L.drop n with
    | nil => exact absurd hd hl.ne
    | cons t r => exact ⟨t, r, rfl⟩
  obtain ⟨hg, hr⟩ := drop_get htr
  rw [htr]
  have KN := hide (Gives.first (now_any h hg))
  simp only [TokD.val] at KN
  have HH := hide h
  have hnl := (List.getElem?_eq_some_iff.1 hg).1
  have hn1 : (n : Int) ≤ 1000000 := by omega
  have c1 := fun y : After u.heap.size u => (h.more y.below).cell1
  have f1 := fun y : After u.heap.size u => (h.more y.below).free 1
  have hrb := h.lt
  have HG := hide hg
  have HR := hide hr
  have KF := hide fun (y : After u.heap.size u) => fail_any (h.more y.below) hg
  clear hl h htr hg hr hnl
  obtain ⟨kd, hkd⟩ : ∃ b : Bool, decide (t.kind = k) = b := ⟨_, rfl⟩
  obtain ⟨okb, hokb⟩ : ∃ b : Bool, ok (bs t.text) = b := ⟨_, rfl⟩
  have hres : takeR k ok (t :: r) = if (kd && okb) = true then .ok (t.text, r) else .error (t.line, t.col) := by
    simp only [takeR]
    by_cases h1 : t.kind = k ∧ ok (bs t.text) = true
    · rw [if_pos h1, if_pos (by rw [← hkd, ← hokb, decide_eq_true h1.1, h1.2]; rfl)]
    · rw [if_neg h1, if_neg (fun h2 => h1 (by rw [Bool.and_eq_true] at h2; exact ⟨of_decide_eq_true (hkd.trans h2.1), hokb.trans h2.2⟩))]
  have hkn : (t.kind != k) = !kd := by
    rw [← hkd, bne, Bool.beq_eq_decide_eq]
  have HRES := hide hres
  have HOKB := hide hokb
  have HKD := hide hkd
  clear hres hokb hkd
  go_enter Tryz.func84, Tryz.ntmps84
  go_upto_region 2 with (go_at_call 87; refine KN.out.mono ?_; rintro e w1 ⟨rfl, y, rfl⟩)
  obtain ⟨V, hV, hVs, hVb, hVh⟩ := boxed y.val (.cells #[.int .i64 t.kind, .string t.text, .int .i64 t.line, .int .i64 t.col] 135)
  obtain ⟨vb, hvb⟩ : ∃ b, b = y.val.heap.size := ⟨_, rfl⟩
  rw [← hvb] at hVs hVh
  have huV : Below u.heap.size u V := y.below.trans (hVb.mono y.size)
  have hcv := fun z : After V.heap.size V => And.intro (z.cells hVh (by omega) 0 _ rfl) (z.cells hVh (by omega) 1 _ rfl)
  have hcv0 := hcv (After.refl _ _)
  simp only [After.refl] at hcv0
  have HV := hide hV
  have HVB := hide hvb
  have HUV := hide huV
  have hne : rb < vb := by have := y.size; omega
  clear hV hvb hVs hVb hVh huV
  rw [← HV.out, ← HVB.out]
  go_cut [25] (fun a wx => a = .bool (!(kd && okb)) ∧ wx = V)
  case first =>
    cases kd
    · go_wp2_with fail
      go_meet
      exact ⟨rfl, rfl⟩
    · rcases ht with ⟨rfl, hok⟩ | ⟨b, off, zs, c, rfl, hz0, hz1, hb, hcell, hok⟩
      · have : okb = true := by rw [← HOKB.out, hok]
        subst this
        go_wp2_with fail
        go_meet
        exact ⟨rfl, rfl⟩
      · have hzl : (0 : Int) < (zs.length : Int) := by omega
        have KC := hide (Tryz.slices_Contains_string b off zs.length c zs t.text V (Nat.le_refl _) (by omega) (fun j hj => (HUV.out.cell (p := ⟨b, off + j, none⟩) hb).trans (hcell j hj)))
        rw [List.take_length, ← hok t.text, HOKB.out] at KC
        clear hcell hok
        go_wp2_with (go_at_call 118; refine KC.out.mono ?_; rintro e w2 ⟨rfl, rfl⟩)
        go_meet
        exact ⟨rfl, rfl⟩
  case rest =>
  obtain ⟨rfl, hwc⟩ := hcut
  subst hwc
  have KFF := hide (KF.out ⟨wc, HUV.out⟩)
  have c1w := c1 ⟨wc, HUV.out⟩
  have f1w := f1 ⟨wc, HUV.out⟩
  simp only at KFF c1w f1w
  have hrbw : rb < wc.heap.size := Nat.lt_of_lt_of_le hrb HUV.out.size
  clear c1 f1 KF KN hkn
  cases hgood : (kd && okb)
  · have HR2 := hide (show takeR k ok (t :: r) = .error (t.line, t.col) by rw [HRES.out, hgood]; rfl)
    clear hgood
    go_wp2_with fail
    refine KFF.out.mono ?_
    rintro e w3 ⟨rfl, hb3⟩
    refine ⟨rfl, grown_of_below (HUV.out.trans (hb3.mono HUV.out.size)), ?_⟩
    rw [HR2.out]
  · have HR2 := hide (show takeR k ok (t :: r) = .ok (t.text, r) by rw [HRES.out, hgood]; rfl)
    have hcs : ∀ v, (wc.setCell ⟨rb, 1, none⟩ v).cell? ⟨vb, 1, none⟩ = some (.string t.text) := fun v => (World.cell?_of_block (a := ⟨vb, 1, none⟩) (Below.heap_setCell _ _ _ _ (by simp only; omega))).trans (hcv (After.refl _ _)).2
    clear hgood
    go_wp2_with fail
    go_ret
    refine ⟨grown_put (grown_of_below HUV.out), ?_⟩
    rw [HR2.out]
    exact ⟨rfl, n + 1, HR.out, (HH.out.more HUV.out).setAt (n + 1)⟩
end Go.Proofs.YtnjbfhfjdhfdlaaGreatDoor
namespace Go.Proofs.YtnjbfhfjdhfdlaaGreatDoor
open Go Go.Lib

theorem parse10_digits : ∀ (l : List UInt8) (acc : Nat), l.all isDig = true → valN acc l < 18446744073709551616 → parseUint10 acc l = .ok (valN acc l)
  | [], acc, _, _ => by rw [valN_nil]; rfl
  | c :: r, acc, hd, hb => by
    simp only [List.all_cons, Bool.and_eq_true] at hd
    have hc := dig_bounds hd.1
    rw [valN_cons] at hb ⊢
    have h2 := valN_ge r (10 * acc + (c.toNat - 48))
    have e : acc * 10 + (c.toNat - 48) = 10 * acc + (c.toNat - 48) := by omega
    rw [parseUint10, if_pos hc, if_neg (by omega), if_neg (by omega), e]
    exact parse10_digits r _ hd.2 hb
theorem parseMag_dec {u : Nat} (h : u < 18446744073709551616) : parseMag (decDigits u) = .ok u := by
  have hne : decDigits u ≠ [] := fun e => by
    have := nDigits_pos u
    rw [← decDigits_length, e] at this
    simp at this
  rw [parseMag, if_neg hne, parse10_digits _ 0 (decDigits_all u) (by rw [valN_dec]; exact h), valN_dec]
theorem atoiAll_itoa {n : Int} (h0 : -9223372036854775808 ≤ n) (h1 : n ≤ 9223372036854775807) : atoiAll (itoa n) = .ok n := by
  by_cases h : n < 0
  · rw [itoaNeg h, atoiAll]
    have e : parseMag (if (45 : UInt8).toNat = 43 ∨ (45 : UInt8).toNat = 45 then decDigits n.natAbs else 45 :: decDigits n.natAbs) = .ok n.natAbs := by
      rw [if_pos (Or.inr (by decide)), parseMag_dec (by omega)]
    simp only [e]
    rw [if_neg (by simp), if_neg (by omega)]
    simp
    omega
  · obtain ⟨m, rfl⟩ : ∃ m : Nat, n = m := ⟨n.toNat, by omega⟩
    rw [itoaNat]
    cases hd : decDigits m with
    | nil => have := nDigits_pos m; rw [← decDigits_length, hd] at this; simp at this
    | cons c r =>
      have hc : 48 ≤ c.toNat ∧ c.toNat ≤ 57 := by
        have hall := decDigits_all m
        rw [hd] at hall
        simp only [List.all_cons, Bool.and_eq_true] at hall
        exact dig_bounds hall.1
      have h3 : ¬ (c.toNat = 43 ∨ c.toNat = 45) := by omega
      have h4 : ¬ c.toNat = 45 := by omega
      have e : parseMag (if c.toNat = 43 ∨ c.toNat = 45 then r else c :: r) = .ok m := by rw [if_neg h3, ← hd, parseMag_dec (by omega)]
      rw [atoiAll]
      simp only [e]
      rw [if_neg (by omega), if_neg (by omega)]
      simp [h4]
end Go.Proofs.YtnjbfhfjdhfdlaaGreatDoor
namespace Go.Proofs.YtnjbfhfjdhfdlaaGreatDoor
open Go.RowKit

/-- what the library's variables hold: the tables, and two errors -/
def TabsS (w : World) : Prop := Tabs w ∧ (4 < w.heap.size ∧ 5 < w.heap.size) ∧ (∃ t p, w.cell? ⟨4, 0, none⟩ = some (.iface t p)) ∧ ∃ t p, w.cell? ⟨5, 0, none⟩ = some (.iface t p)
theorem TabsS.below {w w' : World} (h : TabsS w) (hb : Below w.heap.size w w') : TabsS w' := by
  obtain ⟨h1, ⟨h2, h3⟩, ⟨t, p, h6⟩, t', p', h7⟩ := h
  exact ⟨h1.below hb, ⟨Nat.lt_of_lt_of_le h2 hb.size, Nat.lt_of_lt_of_le h3 hb.size⟩, ⟨t, p, (hb.cell h2).trans h6⟩, t', p', (hb.cell h3).trans h7⟩
/-- strconv.Atoi: a number and nil, or some number and an error -/
theorem atoi_any (s : ByteArray) (hs : s.size ≤ 140737488355328) (w : World) (ht : TabsS w) : Calls Tryz.prog 120 #[.string s] w fun e w' =>
    ∃ v er, e = .returned (.tuple #[.int .i64 v, er]) ∧ Below w.heap.size w w' ∧ I64 v ∧ ((Lib.atoiAll (bs s) = .ok v ∧ er = .nilIface) ∨ ((∀ n, Lib.atoiAll (bs s) ≠ .ok n) ∧ ∃ t p, er = .iface t p)) := by
  obtain ⟨_, _, ⟨t, p, h6⟩, t', p', h7⟩ := ht
  rw [bs_data]
  rcases h : Lib.atoiAll s.data.toList with v | _ | _
  · refine (Tryz.strconv_Atoi_ok s (by omega) v h w).mono ?_
    rintro e w' ⟨rfl, hw⟩
    refine ⟨v, _, rfl, ?_, Lib.atoiAll_bounds h, Or.inl ⟨rfl, rfl⟩⟩
    rcases hw with rfl | ⟨t, rfl⟩
    · exact Below.refl _ _
    · exact Joins.below_bytesWorld _ _ _ _ (Nat.le_refl _)
  · refine (Tryz.strconv_Atoi_syntax s (by omega) h _ w h6 (Or.inr ⟨_, _, rfl⟩)).mono ?_
    rintro e w' ⟨N, rfl, _, _, hb⟩
    exact ⟨_, _, rfl, hb, ⟨by omega, by omega⟩, Or.inr ⟨(fun n hn => (by cases hn)), _, _, rfl⟩⟩
  · refine (Tryz.strconv_Atoi_range s (by omega) h _ w h7 (Or.inr ⟨_, _, rfl⟩)).mono ?_
    rintro e w' ⟨N, rfl, _, _, hb⟩
    refine ⟨_, _, rfl, hb, ?_, Or.inr ⟨(fun n hn => (by cases hn)), _, _, rfl⟩⟩
    unfold Lib.atoiSat I64
    split <;> omega
/-- the library's variables, and where the reader lies -/
structure Ctx (w0 : World) (rb : Nat) (u : World) : Prop where
  tabs : TabsS w0
  bel : Below w0.heap.size w0 u
  lo : w0.heap.size ≤ rb
theorem Ctx.tab {w0 u : World} {rb : Nat} (h : Ctx w0 rb u) : TabsS u := h.tabs.below h.bel
theorem Ctx.grown {w0 u u' : World} {rb : Nat} (h : Ctx w0 rb u) (hg : u.grownBy u' (some rb)) : Ctx w0 rb u' :=
  ⟨h.tabs, Below.grown h.bel hg h.bel.size (fun k hk => by injection hk with hk; rw [← hk]; exact h.lo), h.lo⟩
theorem itoa15 {n : Int} (h2 : (Lib.itoa n).length ≤ 15) : -1000000000000000 < n ∧ n < 1000000000000000 := by
  by_cases hneg : n < 0
  · rw [itoaNeg hneg, List.length_cons, Lib.decDigits_length] at h2
    have h3 := Lib.lt_pow_nDigits n.natAbs
    have h4 : 10 ^ Lib.nDigits n.natAbs ≤ 10 ^ 14 := Nat.pow_le_pow_right (by decide) (by omega)
    omega
  · obtain ⟨m, rfl⟩ : ∃ m : Nat, n = m := ⟨n.toNat, by omega⟩
    rw [itoaNat, Lib.decDigits_length] at h2
    have h3 := Lib.lt_pow_nDigits m
    have h4 : 10 ^ Lib.nDigits m ≤ 10 ^ 15 := Nat.pow_le_pow_right (by decide) h2
    omega
/-- what number asks of a token -/
theorem numTok_atoi {w : List UInt8} {v : Int} (h : Lib.atoiAll w = .ok v) : numTok w = if w.length ≤ 15 ∧ Lib.itoa v = w then some v else none := by
  by_cases hx : w.length ≤ 15 ∧ Lib.itoa v = w
  · rw [if_pos hx]; exact numTok_iff.2 ⟨hx.2, hx.1⟩
  · rw [if_neg hx]
    cases hn : numTok w with
    | none => rfl
    | some n =>
      obtain ⟨h1, h2⟩ := numTok_iff.1 hn
      have hb := itoa15 (n := n) (by rw [h1]; exact h2)
      have h5 := atoiAll_itoa (n := n) (by omega) (by omega)
      rw [h1, h] at h5
      injection h5 with h5
      subst h5
      exact absurd ⟨h2, h1⟩ hx
theorem numTok_none {w : List UInt8} (h : ∀ v, Lib.atoiAll w ≠ .ok v) : numTok w = none := by
  cases hn : numTok w with
  | none => rfl
  | some n =>
    obtain ⟨h1, h2⟩ := numTok_iff.1 hn
    have hb := itoa15 (n := n) (by rw [h1]; exact h2)
    exact absurd (by rw [← h1]; exact atoiAll_itoa (by omega) (by omega)) (h n)
theorem Last5.head {L : List TokD} {n : Nat} (hl : Last5 (L.drop n)) : ∃ t r, L.drop n = t :: r ∧ L[n]? = some t ∧ L.drop (n + 1) = r ∧ n < L.length := by
  cases hd : L.drop n with
  | nil => exact absurd hd hl.ne
  | cons t r =>
    obtain ⟨h1, h2⟩ := drop_get hd
    exact ⟨t, r, rfl, h1, h2, (List.getElem?_eq_some_iff.1 h1).1⟩
set_option maxRecDepth 100000 in
set_option maxHeartbeats 8000000 in
theorem number_any {rb : Nat} {tv : Value} {L : List TokD} {n : Nat} {rest : List Value} {u w0 : World} (h : Rd0 rb tv L n rest u) (hl : Last5 (L.drop n)) (hbig : L.length ≤ 1000000) (hts : ∀ t ∈ L, t.text.size ≤ 1000000) (hc : Ctx w0 rb u) :
    Calls Tryz.prog 86 #[.pointer (some ⟨rb, 0, none⟩)] u (RPost rb tv L rest (fun v : Int => .int .i64 v) (numR (L.drop n)) u) := by
  obtain ⟨t, r, htr, hg, hr, hnl⟩ := hl.head
  have hn1 : (n : Int) ≤ 1000000 := by omega
  have KN := hide fun (y : After u.heap.size u) => Gives.after (x := y) (Nat.le_refl _) (now_any (h.more y.below) hg)
  simp only [TokD.val] at KN
  have HH := hide h
  have HC := hide hc
  have c1 := fun y : After u.heap.size u => (h.more y.below).cell1
  have f1 := fun y : After u.heap.size u => (h.more y.below).free 1
  have g0 := fld0
  have g1 := fld1
  obtain ⟨mb, hmb⟩ : ∃ b, minusT t = b := ⟨_, rfl⟩
  obtain ⟨k3, hk3⟩ : ∃ b, (t.kind == 3) = b := ⟨_, rfl⟩
  obtain ⟨tm, htm⟩ : ∃ b, (t.text.toList == [45]) = b := ⟨_, rfl⟩
  have hmm : mb = (k3 && tm) := by
    rw [← hmb, ← hk3, ← htm, minusT, Bool.beq_eq_decide_eq, Bool.beq_eq_decide_eq]
    rfl
  have HL5 := hide hl
  have HRR := hide hr
  have HTR := hide htr
  have HMB := hide hmb
  have HMM := hide hmm
  have YR : u = (After.refl u.heap.size u).val := rfl
  clear h hl hc hg hr htr hmb hmm
  go_enter Tryz.func86, Tryz.ntmps86
  go_upto_region 1 with fail
  go_cut [3] (fun a wx => a = .bool mb ∧ ∃ y : After u.heap.size u, wx = y.val)
  case first =>
    cases k3
    · go_wp2_with (go_at_call 87; rw [YR]; refine (KN.out _).mono ?_; rintro e w1 ⟨rfl, y, rfl⟩)
      go_meet
      exact ⟨by rw [HMM.out]; rfl, y, rfl⟩
    · go_wp2_with (first
        | (go_at_call 87; refine (KN.out y).mono ?_; rintro e w1 ⟨rfl, z, rfl⟩)
        | (go_at_call 87; rw [YR]; refine (KN.out _).mono ?_; rintro e w1 ⟨rfl, y, rfl⟩))
      go_meet
      exact ⟨by rw [HMM.out]; rfl, z, rfl⟩
  case rest =>
  obtain ⟨rfl, y, rfl⟩ := hcut
  have c1y := c1 y
  have f1y := f1 y
  have hrby := (HH.out.more y.below).lt
  have H5R : Hid (mb = true → Last5 r) := hide fun hm => by
    have h5 := HL5.out
    rw [HTR.out] at h5
    refine h5.tail fun e => ?_
    have h6 := HMB.out
    rw [hm] at h6
    simp only [minusT, Bool.and_eq_true, decide_eq_true_eq] at h6
    rw [h6.1] at e
    cases e
  have HRES : Hid (numR (L.drop n) = numR1 mb (if mb then r else t :: r)) := hide (by
    rw [HTR.out]
    simp only [numR]
    rw [HMB.out]
    cases mb <;> rfl)
  clear c1 f1 KN
  go_upto_if 17 with fail
  go_cut [3] (fun a wx => a = .bool mb ∧ ∃ m : Nat, Hid (Rd0 rb tv L m rest wx) ∧ Hid (u.grownBy wx (some rb)) ∧ Hid (L.drop m = if mb then r else t :: r) ∧ Hid (Last5 (L.drop m)))
  case first =>
    cases mb
    · go_wp2_with fail
      go_meet
      exact ⟨rfl, n, hide (HH.out.more y.below), hide (grown_of_below y.below), hide (by rw [HTR.out]; rfl), HL5⟩
    · go_wp2_with fail
      go_meet
      exact ⟨rfl, n + 1, hide ((HH.out.more y.below).setAt (n + 1)), hide (grown_put (grown_of_below y.below)), hide (by rw [HRR.out]; rfl), hide (by rw [HRR.out]; exact H5R.out (by first | rfl | trivial))⟩
  case rest =>
  obtain ⟨rfl, m, hm, hug, hdr, h5⟩ := hcut
  obtain ⟨t2, r2, htr2, hg2, hr2, hml⟩ := h5.out.head
  have hm1 : (m : Int) ≤ 1000000 := by omega
  have KN2 := hide (Gives.first (now_any hm.out hg2))
  simp only [TokD.val] at KN2
  have KF2 := hide fun (z : After wc.heap.size wc) => fail_any (hm.out.more z.below) hg2
  have hsz2 := hts t2 (List.mem_of_getElem? hg2)
  have HTR2 := hide htr2
  have HR2 := hide hr2
  have HCW := hide (HC.out.grown hug.out)
  have KA := hide fun (z : After wc.heap.size wc) => atoi_any t2.text (by omega) z.val (HCW.out.tab.below z.below)
  have KI := hide fun (v : Int) (hv : I64 v) (z : After wc.heap.size wc) => Gives.after (x := z) (Nat.le_refl _) (itoa_any v hv z.val (HCW.out.tab.1.below z.below))
  have c1w := fun z : After wc.heap.size wc => (hm.out.more z.below).cell1
  have f1w := fun z : After wc.heap.size wc => (hm.out.more z.below).free 1
  have hrbw := hm.out.lt
  have HRS2 : Hid (numR (L.drop n) = numR1 mb (t2 :: r2)) := hide (by rw [HRES.out, ← hdr.out, HTR2.out])
  clear c1y f1y hrby htr2 hg2 hr2 hml hk3 htm YR
  go_upto_region 4 with fail
  go_upto_region 5 with (go_at_call 87; refine KN2.out.mono ?_; rintro e w1 ⟨rfl, z, rfl⟩)
  obtain ⟨V, hV, hVs, hVb, hVh⟩ := boxed z.val (.cells #[.int .i64 t2.kind, .string t2.text, .int .i64 t2.line, .int .i64 t2.col] 135)
  obtain ⟨vb, hvb⟩ : ∃ b, b = z.val.heap.size := ⟨_, rfl⟩
  rw [← hvb] at hVs hVh
  have hwV : Below wc.heap.size wc V := z.below.trans (hVb.mono z.size)
  have hcv := fun q : After V.heap.size V => And.intro (q.cells hVh (by omega) 0 _ rfl) (q.cells hVh (by omega) 1 _ rfl)
  have hcv0 := hcv (After.refl _ _)
  simp only [After.refl] at hcv0
  have HV := hide hV
  have HVB := hide hvb
  have HWV := hide hwV
  have hwVs := hwV.size
  clear hV hvb hVs hVb hVh hwV
  rw [← HV.out, ← HVB.out]
  go_wp2_with fail
  refine (KA.out ⟨V, HWV.out⟩).mono ?_
  rintro e w2 ⟨v, er, rfl, hb2, hv, hat⟩
  obtain ⟨q, rfl⟩ : ∃ q : After V.heap.size V, w2 = q.val := After.exists_iff hb2
  have HI64 := hide hv
  have hcq := hcv q
  have KIq := hide fun (z : After V.heap.size V) => Gives.after (x := z) (Nat.le_refl _) (itoa_any v HI64.out z.val ((HCW.out.tab.1.below HWV.out).below z.below))
  obtain ⟨kb, hkb⟩ : ∃ b, (t2.kind == 2) = b := ⟨_, rfl⟩
  have hkn : (t2.kind != 2) = !kb := by rw [← hkb]; rfl
  obtain ⟨lb, hlb⟩ : ∃ b, decide ((t2.text.size : Int) ≤ 15) = b := ⟨_, rfl⟩
  obtain ⟨ib, hib⟩ : ∃ b, ((⟨(Lib.itoa v).toArray⟩ : ByteArray).toList == t2.text.toList) = b := ⟨_, rfl⟩
  have hin : ((⟨(Lib.itoa v).toArray⟩ : ByteArray).toList != t2.text.toList) = !ib := by rw [← hib]; rfl
  have HKB := hide hkb
  have HLB := hide hlb
  have HIB := hide hib
  have hee : ∃ eb : Bool, (eb = true ∧ er = .nilIface ∧ Lib.atoiAll (bs t2.text) = .ok v) ∨ (eb = false ∧ (∃ t p, er = .iface t p) ∧ ∀ n, Lib.atoiAll (bs t2.text) ≠ .ok n) := by
    rcases hat with ⟨h1, h2⟩ | ⟨h1, h2⟩
    · exact ⟨true, Or.inl ⟨rfl, h2, h1⟩⟩
    · exact ⟨false, Or.inr ⟨rfl, h2, h1⟩⟩
  obtain ⟨eb, heb⟩ := hee
  have HEB := hide heb
  have hnum : numR1 mb (t2 :: r2) = if (kb && eb && lb && ib) = true then .ok (if mb then -v else v, r2) else .error (t2.line, t2.col) := by
    simp only [numR1]
    have hlen : (bs t2.text).length = t2.text.size := bs_length _
    cases kb
    · rw [if_neg (by simpa using HKB.out), if_neg (by simp)]
    · rw [if_pos (by simpa using HKB.out)]
      rcases heb with ⟨rfl, _, h2⟩ | ⟨rfl, _, h2⟩
      · rw [numTok_atoi h2]
        by_cases hx : (bs t2.text).length ≤ 15 ∧ Lib.itoa v = bs t2.text
        · have e1 : lb = true := by rw [← HLB.out]; exact decide_eq_true (by omega)
          have e2 : ib = true := by
            rw [← HIB.out]
            exact beq_iff_eq.2 (show bs ⟨(Lib.itoa v).toArray⟩ = bs t2.text by rw [bs_of]; exact hx.2)
          rw [if_pos hx, e1, e2]
          rfl
        · rw [if_neg hx, if_neg (fun hy => hx (by
            simp only [Bool.true_and, Bool.and_eq_true] at hy
            refine ⟨by have := of_decide_eq_true (HLB.out.trans hy.1); omega, ?_⟩
            have h9 := HIB.out.trans hy.2
            rw [beq_iff_eq] at h9
            rw [show Lib.itoa v = bs ⟨(Lib.itoa v).toArray⟩ from (bs_of _).symm]
            exact h9))]
      · rw [numTok_none h2, if_neg (by simp)]
  have HNUM := hide hnum
  clear hkb hib hv hb2 hat heb hnum
  go_upto_region 6 with fail
  go_cut [52] (fun a wx => a = .bool (!(kb && eb && lb && ib)) ∧ ∃ z : After V.heap.size V, wx = z.val)
  case first =>
    cases kb
    · refine wp_region_after q (by kernel_rfl) (by kernel_rfl) ?_
      repeat (go_big_quiet_step (fail))
      refine wpQuiet_nil ?_
      intro z
      go_wp2_with fail
      go_meet
      exact ⟨rfl, z, rfl⟩
    · rcases HEB.out with ⟨rfl, rfl, _⟩ | ⟨rfl, ⟨t, p, rfl⟩, _⟩
      · cases lb
        · have hl15 : decide ((15 : Int) < (t2.text.size : Int)) = true := by have := of_decide_eq_false hlb; exact decide_eq_true (by omega)
          refine wp_region_after q (by kernel_rfl) (by kernel_rfl) ?_
          repeat (go_big_quiet_step (fail))
          refine wpQuiet_nil ?_
          intro z
          go_wp2_with fail
          go_meet
          exact ⟨rfl, z, rfl⟩
        · have hl15 : decide ((15 : Int) < (t2.text.size : Int)) = false := by have := of_decide_eq_true hlb; exact decide_eq_false (by omega)
          refine wp_region_after q (by kernel_rfl) (by kernel_rfl) ?_
          repeat (go_big_quiet_step ((go_at_call 55; exact KIq.out _)))
          refine wpQuiet_nil ?_
          intro z
          go_wp2_with fail
          go_meet
          exact ⟨by have h9 := HIB.out; simp at h9; simp [h9], z, rfl⟩
      · refine wp_region_after q (by kernel_rfl) (by kernel_rfl) ?_
        repeat (go_big_quiet_step (fail))
        refine wpQuiet_nil ?_
        intro z
        go_wp2_with fail
        go_meet
        exact ⟨rfl, z, rfl⟩
  case rest =>
  obtain ⟨rfl, z2, rfl⟩ := hcut
  have hwz2 : Below wc.heap.size wc z2.val := HWV.out.trans (z2.below.mono hwVs)
  have HWZ := hide hwz2
  have KFz := hide (KF2.out ⟨z2.val, hwz2⟩)
  simp only at KFz
  have c1z := c1w ⟨z2.val, hwz2⟩
  have f1z := f1w ⟨z2.val, hwz2⟩
  simp only at c1z f1z
  clear c1w f1w hin hkn hlb hwz2 KIq KI KA
  cases hgood : (kb && eb && lb && ib)
  · have HE := hide (show numR (L.drop n) = .error (t2.line, t2.col) by rw [HRS2.out, HNUM.out, hgood]; rfl)
    clear hgood
    go_wp2_with fail
    refine KFz.out.mono ?_
    rintro e w3 ⟨rfl, hb3⟩
    refine ⟨rfl, grown_below (grown_below hug.out HWZ.out) hb3, ?_⟩
    rw [HE.out]
  · have HE := hide (show numR (L.drop n) = .ok (if mb then -v else v, r2) by rw [HRS2.out, HNUM.out, hgood]; rfl)
    have HRD := hide ((hm.out.more HWZ.out).setAt (m + 1))
    have HGR := hide (grown_put (i := 1) (v := .int .i64 (m + 1 : Nat)) (grown_below hug.out HWZ.out))
    have HBV := HEB
    have hv15 : -1000000000000000 < v ∧ v < 1000000000000000 := by
      simp only [Bool.and_eq_true] at hgood
      have h9 := HIB.out.trans hgood.2
      have h8 := of_decide_eq_true (HLB.out.trans hgood.1.2)
      rw [beq_iff_eq] at h9
      have h7 : Lib.itoa v = bs t2.text := by rw [show Lib.itoa v = bs ⟨(Lib.itoa v).toArray⟩ from (bs_of _).symm]; exact h9
      refine itoa15 ?_
      rw [h7, bs_length]
      omega
    clear hgood
    cases mb
    · go_wp2_with fail
      go_ret
      refine ⟨HGR.out, ?_⟩
      rw [HE.out]
      exact ⟨rfl, m + 1, HR2.out, HRD.out⟩
    · go_wp2_with fail
      go_ret
      refine ⟨HGR.out, ?_⟩
      rw [HE.out]
      exact ⟨by simp, m + 1, HR2.out, HRD.out⟩
end Go.Proofs.YtnjbfhfjdhfdlaaGreatDoor
namespace Go.Proofs.YtnjbfhfjdhfdlaaGreatDoor
open Go.RowKit

set_option maxRecDepth 100000 in
set_option maxHeartbeats 4000000 in
theorem name_any {rb : Nat} {tv : Value} {L : List TokD} {n : Nat} {rest : List Value} {u : World} (h : Rd0 rb tv L n rest u) (hl : Last5 (L.drop n)) (hbig : L.length ≤ 1000000) :
    Calls Tryz.prog 85 #[.pointer (some ⟨rb, 0, none⟩)] u (RPost rb tv L rest Value.string (nameR (L.drop n)) u) := by
  have KT := hide (take_any h hl hbig 1 (.slice none 0 0) (fun _ => true) (Or.inl ⟨rfl, rfl⟩))
  clear h hl
  go_enter Tryz.func85, Tryz.ntmps85
  go_wp2_with fail
  refine KT.out.mono ?_
  rintro e w1 ⟨hg, hm⟩
  have HM := hide hm
  have HG := hide hg
  clear hg hm
  have hn : nameR (L.drop n) = takeR 1 (fun _ => true) (L.drop n) := rfl
  cases hx : takeR 1 (fun _ => true) (L.drop n) with
  | error q =>
    have h1 := HM.out
    rw [hx] at h1
    simp only at h1
    subst h1
    exact ⟨rfl, HG.out, by rw [hn, hx]⟩
  | ok v =>
    obtain ⟨a, r⟩ := v
    have h1 := HM.out
    rw [hx] at h1
    obtain ⟨rfl, m, h2, h3⟩ := h1
    have HH := hide (And.intro h2 h3)
    have HX := hide hx
    clear HM hx h2 h3 hn
    go_wp2_with fail
    go_ret
    refine ⟨HG.out, ?_⟩
    rw [show nameR (L.drop n) = takeR 1 (fun _ => true) (L.drop n) from rfl, HX.out]
    exact ⟨rfl, m, HH.out.1, HH.out.2⟩
theorem lt_of_eq_of_lt2 {a b c : Nat} (h : a = b) (h2 : b < c) : a < c := h ▸ h2
/-- the number in a cell -/
def numAt (w : World) (p : Addr) : Nat := match w.cell? p with | some (.int _ n) => n.toNat | _ => 0
theorem Rd0.numAt {rb : Nat} {tv : Value} {L : List TokD} {n : Nat} {rest : List Value} {x : World} (h : Rd0 rb tv L n rest x) : numAt x ⟨rb, 1, none⟩ = n := by rw [Go.Proofs.YtnjbfhfjdhfdlaaGreatDoor.numAt, h.cell1]; simp
set_option maxRecDepth 100000 in
set_option maxHeartbeats 4000000 in
theorem blank_any {rb : Nat} {tv : Value} {L : List TokD} {n : Nat} {rest : List Value} {u : World} (h : Rd0 rb tv L n rest u) (hl : Last5 (L.drop n)) (hbig : L.length ≤ 1000000) :
    Calls Tryz.prog 83 #[.pointer (some ⟨rb, 0, none⟩)] u (RPost rb tv L rest (fun _ : Unit => .tuple #[]) (.ok ((), blankR (L.drop n))) u) := by
  have HH := hide h
  have HL := hide hl
  clear h hl
  have g0 := fld0
  go_enter Tryz.func83, Tryz.ntmps83
  go_wp2_with fail
  go_loopw [5] (fun _ wr => ∃ m : Nat, Hid (Rd0 rb tv L m rest wr) ∧ Hid (u.grownBy wr (some rb)) ∧ Hid (Last5 (L.drop m)) ∧ Hid (blankR (L.drop m) = blankR (L.drop n))) (fun _ wr => L.length - numAt wr ⟨rb, 1, none⟩)
  case atStart => exact ⟨n, HH, hide (World.grownBy.refl _ _), HL, hide rfl⟩
  case round =>
    obtain ⟨m, hm, hug, h5, hbl⟩ := hrel
    obtain ⟨t, r, htr, hg, hr, hml⟩ := h5.out.head
    have hm1 : (m : Int) ≤ 1000000 := by omega
    have KN := hide (Gives.first (now_any hm.out hg))
    simp only [TokD.val] at KN
    have c1 := fun z : After wr.heap.size wr => (hm.out.more z.below).cell1
    have f1 := fun z : After wr.heap.size wr => (hm.out.more z.below).free 1
    have hrb := hm.out.lt
    have HTR := hide htr
    have HR := hide hr
    have HML := hide hml
    have hnum := hm.out.numAt
    by_cases hk : t.kind = 4
    · have hkb : (t.kind == 4) = true := by rw [hk]; rfl
      have HBL := hide (show blankR (L.drop (m + 1)) = blankR (L.drop n) by rw [HR.out, ← hbl.out, HTR.out, blankR_line hk])
      have H5 := hide (show Last5 (L.drop (m + 1)) by rw [HR.out]; have h9 := h5.out; rw [HTR.out] at h9; exact h9.tail (by rw [hk]; decide))
      clear hk htr hr hg hml
      go_wp2_with (go_at_call 87; refine KN.out.mono ?_; rintro e w1 ⟨rfl, z, rfl⟩; have c1z := c1 z; have f1z := f1 z)
      have hrd := (hm.out.more z.below).setAt (m + 1)
      have hna := hrd.numAt
      refine ⟨⟨m + 1, hide hrd, hide (grown_put (grown_below hug.out z.below)), H5, HBL⟩, ?_⟩
      have hml2 := HML.out
      clear hm1
      show L.length - Go.Proofs.YtnjbfhfjdhfdlaaGreatDoor.numAt _ ⟨rb, 1, none⟩ < L.length - Go.Proofs.YtnjbfhfjdhfdlaaGreatDoor.numAt wr ⟨rb, 1, none⟩
      rw [hnum]
      have hlt : L.length - (m + 1) < L.length - m := by omega
      exact lt_of_eq_of_lt2 (congrArg (fun k => L.length - k) hna) hlt
    · have hkb : (t.kind == 4) = false := by simpa using hk
      have HBL := hide (show L.drop m = blankR (L.drop n) by rw [← hbl.out, HTR.out, blankR_other hk])
      clear hk htr hr hg hml
      go_wp2_with (go_at_call 87; refine KN.out.mono ?_; rintro e w1 ⟨rfl, z, rfl⟩)
      go_end0
      exact ⟨grown_below hug.out z.below, rfl, m, HBL.out, hm.out.more z.below⟩
end Go.Proofs.YtnjbfhfjdhfdlaaGreatDoor
namespace Go.Proofs.YtnjbfhfjdhfdlaaGreatDoor
open Go.RowKit

/-- the reading of k numbers, of which some are there -/
def NumsTo (k : Nat) (ts : List TokD) (pre : List Int) (k' : Nat) (ts' : List TokD) : Prop := numsR k ts = bindR (numsR k' ts') fun l r => .ok (pre ++ l, r)
theorem NumsTo.refl (k : Nat) (ts : List TokD) : NumsTo k ts [] k ts := by
  unfold NumsTo
  cases numsR k ts with
  | error p => rfl
  | ok v => rfl
theorem NumsTo.step {k k' : Nat} {ts ts' r : List TokD} {pre : List Int} {v : Int} (h : NumsTo k ts pre (k' + 1) ts') (hv : numR ts' = .ok (v, r)) : NumsTo k ts (pre ++ [v]) k' r := by
  unfold NumsTo at *
  rw [h, nums_bind, hv]
  simp only [bindR]
  cases numsR k' r with
  | error p => rfl
  | ok v => simp
theorem NumsTo.err {k k' : Nat} {ts ts' : List TokD} {pre : List Int} {q : Int × Int} (h : NumsTo k ts pre (k' + 1) ts') (hv : numR ts' = .error q) : numsR k ts = .error q := by
  unfold NumsTo at h
  rw [h, nums_bind, hv]
  rfl
theorem NumsTo.done {k : Nat} {ts ts' : List TokD} {pre : List Int} (h : NumsTo k ts pre 0 ts') : numsR k ts = .ok (pre, ts') := by
  unfold NumsTo at h
  rw [h]
  simp [numsR, bindR]
/-- cells, some of which have turned to numbers -/
def putN : Array Value → List Nat → List Int → Array Value
  | c, o :: os, v :: vs => putN (c.setIfInBounds o (.int .i64 v)) os vs
  | c, _, _ => c
theorem putN_nil (c : Array Value) (os : List Nat) : putN c os [] = c := by cases os <;> rfl
theorem putN_size : ∀ (c : Array Value) (os : List Nat) (vs : List Int), (putN c os vs).size = c.size
  | c, [], vs => by cases vs <;> rfl
  | c, o :: os, [] => rfl
  | c, o :: os, v :: vs => by rw [putN, putN_size]; simp
theorem putN_snoc : ∀ (c : Array Value) (os : List Nat) (pre : List Int) (v : Int) {o : Nat}, os[pre.length]? = some o → putN c os (pre ++ [v]) = (putN c os pre).setIfInBounds o (.int .i64 v)
  | c, [], pre, v, o, h => by simp at h
  | c, o' :: os, [], v, o, h => by
    simp only [List.length_nil, List.getElem?_cons_zero, Option.some.injEq] at h
    subst h
    simp only [List.nil_append, putN, putN_nil]
  | c, o' :: os, p :: pre, v, o, h => by
    simp only [List.length_cons, List.getElem?_cons_succ] at h
    simp only [List.cons_append, putN]
    exact putN_snoc _ os pre v h
/-- of what was there, two blocks alone have turned -/
structure Grown2 (u w : World) (a b : Nat) : Prop where
  os : w.os = u.os
  tape : w.tape = u.tape
  output : w.output = u.output
  size : u.heap.size ≤ w.heap.size
  block : ∀ k, k < u.heap.size → k ≠ a → k ≠ b → w.heap[k]? = u.heap[k]?
theorem Grown2.refl (u : World) (a b : Nat) : Grown2 u u a b := ⟨rfl, rfl, rfl, Nat.le_refl _, fun _ _ _ _ => rfl⟩
theorem Grown2.more {u x y : World} {a b : Nat} (h : Grown2 u x a b) (hg : x.grownBy y (some a)) : Grown2 u y a b :=
  ⟨hg.os.trans h.os, hg.tape.trans h.tape, hg.output.trans h.output, Nat.le_trans h.size hg.size, fun k hk ha hb => (hg.block k (Nat.lt_of_lt_of_le hk h.size) (fun e => ha (by injection e))).trans (h.block k hk ha hb)⟩
theorem Grown2.put {u x : World} {a b : Nat} (h : Grown2 u x a b) (i : Nat) (v : Value) : Grown2 u (x.setCell ⟨b, i, none⟩ v) a b :=
  ⟨h.os, h.tape, h.output, by simp [World.setCell]; exact h.size, fun k hk ha hb => (Below.heap_setCell _ _ _ _ (fun e => hb (by simp only at e; rw [e]))).trans (h.block k hk ha hb)⟩
/-- the second block is new: one alone has turned -/
theorem Grown2.one {u x y : World} {a b : Nat} (h : Grown2 x y a b) (hu : u.grownBy x (some a)) (hb : u.heap.size ≤ b) : u.grownBy y (some a) :=
  ⟨h.os.trans hu.os, h.tape.trans hu.tape, h.output.trans hu.output, Nat.le_trans hu.size h.size, fun k hk hne => (h.block k (Nat.lt_of_lt_of_le hk hu.size) (fun e => hne (by rw [e])) (by omega)).trans (hu.block k hk hne)⟩
theorem Ctx.grown2 {w0 u u' : World} {rb sb : Nat} (h : Ctx w0 rb u) (hg : Grown2 u u' rb sb) (hs : w0.heap.size ≤ sb) : Ctx w0 rb u' :=
  ⟨h.tabs, ⟨hg.os.trans h.bel.os, hg.tape.trans h.bel.tape, hg.output.trans h.bel.output, Nat.le_trans h.bel.size hg.size, fun k hk => (hg.block k (Nat.lt_of_lt_of_le hk h.bel.size) (by have := h.lo; omega) (by omega)).trans (h.bel.block k hk)⟩, h.lo⟩
/-- what numbers leaves -/
def NPost (rb sb : Nat) (tv : Value) (L : List TokD) (rest : List Value) (cur : Array Value) (ty : TypeId) (offs : List Nat) (x : Rd (List Int)) (u : World) (e : Ending) (w' : World) : Prop :=
  Grown2 u w' rb sb ∧ match x with
    | .ok (l, r) => e = .returned (.tuple #[]) ∧ w'.heap[sb]? = some (.cells (putN cur offs l) ty (0, 0)) ∧ ∃ n, L.drop n = r ∧ Rd0 rb tv L n rest w'
    | .error q => e = .panicked [{ v := .iface 131 (.agg #[.int .i64 q.1, .int .i64 q.2]), recovered := false }]
theorem Rd0.putOther {rb sb : Nat} {tv : Value} {L : List TokD} {n : Nat} {rest : List Value} {x : World} (h : Rd0 rb tv L n rest x) (hne : sb ≠ rb) (htb : ∀ tb cap, tv = .slice (some ⟨tb, 0, none⟩) L.length cap → sb ≠ tb) (i : Nat) (v : Value) : Rd0 rb tv L n rest (x.setCell ⟨sb, i, none⟩ v) := by
  obtain ⟨tb, cap, h1, h2, h3, h4, h5, h6⟩ := h.toks
  exact ⟨(Below.heap_setCell _ _ _ _ (fun e => hne (by simp only at e; exact e.symm))).trans h.box, tb, cap, h1, h2, h3, h4, by simp [World.setCell]; exact h5, fun i' t hi j u hu => (World.cell?_of_block (a := ⟨tb, i' * 4 + j, none⟩) (Below.heap_setCell _ _ _ _ (fun e => htb tb cap h1 (by simp only at e; exact e.symm)))).trans (h6 i' t hi j u hu)⟩
set_option maxRecDepth 100000 in
set_option maxHeartbeats 8000000 in
theorem numbers_any {rb sb pb po pc : Nat} {tv : Value} {L : List TokD} {n : Nat} {rest : List Value} {u w0 : World} {cur : Array Value} {ty : TypeId} (offs : List Nat) (h : Rd0 rb tv L n rest u) (hl : Last5 (L.drop n)) (hbig : L.length ≤ 1000000) (hts : ∀ t ∈ L, t.text.size ≤ 1000000) (hc : Ctx w0 rb u)
    (hlo : w0.heap.size ≤ sb) (hsr : sb ≠ rb) (hst : ∀ tb cap, tv = .slice (some ⟨tb, 0, none⟩) L.length cap → sb ≠ tb) (hpr : pb ≠ rb) (hps : pb ≠ sb) (hpl : pb < u.heap.size) (hs : u.heap[sb]? = some (.cells cur ty (0, 0)))
    (ho : ∀ o ∈ offs, o < cur.size) (h9 : offs.length ≤ 9) (hp : ∀ i o, offs[i]? = some o → u.cell? ⟨pb, po + i, none⟩ = some (.pointer (some ⟨sb, o, none⟩))) :
    Calls Tryz.prog 121 #[.pointer (some ⟨rb, 0, none⟩), .slice (some ⟨pb, po, none⟩) offs.length pc] u (NPost rb sb tv L rest cur ty offs (numsR offs.length (L.drop n)) u) := by
  have HH := hide h
  have HL := hide hl
  have HC := hide hc
  have HP := hide hp
  have HS := hide hs
  have HO := hide ho
  have HST := hide hst
  clear h hl hc hp hs ho hst
  go_enter Tryz.func121, Tryz.ntmps121
  go_wp2_with fail
  go_loopw [5, 8] (fun _ v wr => ∃ (i m : Nat) (pre : List Int), v = .int .i64 i ∧ i ≤ offs.length ∧ Hid (pre.length = i) ∧ Hid (Rd0 rb tv L m rest wr) ∧ Hid (Grown2 u wr rb sb) ∧ Hid (Last5 (L.drop m)) ∧ Hid (NumsTo offs.length (L.drop n) pre (offs.length - i) (L.drop m)) ∧ Hid (wr.heap[sb]? = some (.cells (putN cur offs pre) ty (0, 0)))) (fun _ v _ => offs.length - (intOf v).toNat)
  case atStart => exact ⟨0, n, [], rfl, Nat.zero_le _, hide rfl, HH, hide (Grown2.refl _ _ _), HL, hide (NumsTo.refl _ _), hide (by rw [putN_nil]; exact HS.out)⟩
  case round =>
    obtain ⟨i, m, pre, rfl, hi, hpre, hm, hug, h5, hto, hsb⟩ := hrel
    by_cases hlt : i < offs.length
    · obtain ⟨o, ho⟩ : ∃ o, offs[i]? = some o := ⟨offs[i], List.getElem?_eq_getElem hlt⟩
      have hpc : wr.cell? ⟨pb, po + i, none⟩ = some (.pointer (some ⟨sb, o, none⟩)) := (World.cell?_of_block (a := ⟨pb, po + i, none⟩) (hug.out.block pb hpl hpr hps)).trans (HP.out i o ho)
      have KN := hide (number_any hm.out h5.out hbig hts (HC.out.grown2 hug.out hlo))
      have HO1 := hide ho
      clear ho
      go_wp2_with fail
      refine KN.out.mono ?_
      rintro e w1 ⟨hg, hx⟩
      have HG := hide hg
      have HX := hide hx
      clear hg hx
      obtain ⟨k, hk⟩ : ∃ k, offs.length - i = k + 1 := ⟨offs.length - i - 1, by omega⟩
      have hto2 := hto.out
      rw [hk] at hto2
      cases hv : numR (L.drop m) with
      | error q =>
        have h1 := HX.out
        rw [hv] at h1
        simp only at h1
        subst h1
        exact ⟨rfl, hug.out.more HG.out, by rw [hto2.err hv]⟩
      | ok v =>
        obtain ⟨a, r⟩ := v
        have h1 := HX.out
        rw [hv] at h1
        obtain ⟨rfl, m', h2, h3⟩ := h1
        have hgd := (num_gd (L.drop m)) h5.out
        rw [hv] at hgd
        have H5 := hide (show Last5 (L.drop m') by rw [h2]; exact hgd.2)
        have HTO := hide (show NumsTo offs.length (L.drop n) (pre ++ [a]) k (L.drop m') by rw [h2]; exact hto2.step hv)
        have HRD := hide h3
        have ho2 : o < (putN cur offs pre).size := by rw [putN_size]; exact HO.out o (List.mem_of_getElem? HO1.out)
        have hb1 : w1.heap[sb]? = some (.cells (putN cur offs pre) ty (0, 0)) := (HG.out.block sb (Array.getElem?_eq_some_iff.1 hsb.out).1 (fun e => hsr (by injection e))).trans hsb.out
        obtain ⟨cv, hcv⟩ : ∃ cv, w1.cell? ⟨sb, o, none⟩ = some cv := ⟨_, (Joins.cell_of_block hb1 o).trans (Array.getElem?_eq_getElem ho2)⟩
        have hfr := block_unfrozen hb1 o
        have HB := hide (show (w1.setCell ⟨sb, o, none⟩ (.int .i64 a)).heap[sb]? = some (.cells (putN cur offs (pre ++ [a])) ty (0, 0)) by rw [putN_snoc _ _ _ _ (by rw [hpre.out]; exact HO1.out)]; exact block_set hb1 _)
        clear hto2 hgd h2 h3 ho2 hb1 hv HX hpc
        go_wp2_with fail
        refine ⟨⟨i + 1, m', pre ++ [a], by go_num, by omega, hide (by simp [hpre.out]), hide (HRD.out.putOther hsr HST.out _ _), hide ((hug.out.more HG.out).put _ _), H5, hide (by rw [show offs.length - (i + 1) = k by omega]; exact HTO.out), HB⟩, by simp [intOf]; omega⟩
    · go_wp2_with fail
      go_end0
      have he : i = offs.length := by omega
      have h0 := hto.out
      rw [he, Nat.sub_self] at h0
      refine ⟨hug.out, ?_⟩
      rw [h0.done]
      exact ⟨rfl, hsb.out, m, rfl, hm.out⟩
end Go.Proofs.YtnjbfhfjdhfdlaaGreatDoor
namespace Go.Proofs.YtnjbfhfjdhfdlaaGreatDoor
open Go.RowKit

structure CueD where
  name : ByteArray
  after : ByteArray
  link : Int
  delay : Int
  moves : Sl MoveD
  crew : Int
  power : Int
def MoveD.cells (m : MoveD) : List Value := [.string m.set, .int .i64 m.to, .int .i64 m.speed, .int .i64 m.rise, .int .i64 m.fall]
def CueD.cells (q : CueD) : List Value := [.string q.name, .string q.after, .int .i64 q.link, .int .i64 q.delay, q.moves.val, .int .i64 q.crew, .int .i64 q.power]
def pairCells (p : ByteArray × ByteArray) : List Value := [.string p.1, .string p.2]
def SetD.pl (s : SetD) : SetP := ⟨s.name, s.depth, s.low, s.high, s.length, s.lines.l, s.pipe, s.arbor, s.purchase, s.most, s.brake, s.items.l, s.bricks.l⟩
def CueD.pl (q : CueD) : CueP := ⟨q.name, q.after, q.link, q.delay, q.moves.l, q.crew, q.power⟩
/-- a row: its type, the size of an element, its slice, its length, its cells -/
structure Row where
  e : TypeId
  size : Nat
  v : Value
  n : Nat
  xs : List Value
def Row.lies (base : Nat) (w : World) (r : Row) : Prop := w.ownsRow base r.e r.size r.v r.n r.xs
def Sep (a b : Row) : Prop := ∀ k, a.v.ownBlock = some k → b.v.ownBlock ≠ some k
theorem Sep.symm {a b : Row} (h : Sep a b) : Sep b a := fun k h1 h2 => h k h2 h1
/-- rows, each in its own block -/
structure Rows (base : Nat) (w : World) (rs : List Row) : Prop where
  all : ∀ r ∈ rs, r.lies base w
  sep : rs.Pairwise Sep
theorem Row.lies.kept {base : Nat} {w w' : World} {r : Row} {row : Option Nat} (h : r.lies base w) (hg : w.grownBy w' row) (hne : r.v.ownBlock = none ∨ r.v.ownBlock ≠ row) : r.lies base w' := World.ownsRow.kept h hg hne
theorem Rows.kept {base : Nat} {w w' : World} {rs : List Row} {row : Option Nat} (h : Rows base w rs) (hg : w.grownBy w' row) (hr : ∀ k, row = some k → k < base) : Rows base w' rs := by
  refine ⟨fun r hm => (h.all r hm).kept hg ?_, h.sep⟩
  cases hv : r.v.ownBlock with
  | none => exact Or.inl rfl
  | some k => exact Or.inr fun e => by have h1 := hr k e.symm; have h2 := World.ownsRow.lt (h.all r hm) k hv; omega
theorem Rows.turn {base : Nat} {w w' : World} {A B : List Row} {r r' : Row} (h : Rows base w (A ++ r :: B)) (hr : r'.lies base w') (hg : w.grownBy w' r.v.ownBlock) (hb : ∀ k, r'.v.ownBlock = some k → r.v.ownBlock = some k ∨ w.heap.size ≤ k) : Rows base w' (A ++ r' :: B) := by
  have hp := List.pairwise_append.1 h.sep
  have hq := List.pairwise_cons.1 hp.2.1
  have keep : ∀ o : Row, o ∈ A ++ r :: B → Sep o r → o.lies base w' := fun o ho hs => (h.all o ho).kept hg (by
    cases hv : o.v.ownBlock with
    | none => exact Or.inl rfl
    | some k => exact Or.inr fun e => hs k hv e.symm)
  have sep : ∀ o : Row, o ∈ A ++ r :: B → Sep o r → Sep o r' := fun o ho hs k hk h' => by
    rcases hb k h' with h1 | h1
    · exact hs k hk h1
    · have h2 := World.ownsRow.lt (h.all o ho) k hk; omega
  refine ⟨fun o ho => ?_, List.pairwise_append.2 ⟨hp.1, List.pairwise_cons.2 ⟨fun o ho => (sep o (by simp [ho]) (hq.1 o ho).symm).symm, hq.2⟩, fun a ha b hb' => ?_⟩⟩
  · rcases List.mem_append.1 ho with h1 | h1
    · exact keep o (by simp [h1]) (hp.2.2 o h1 r (by simp))
    · rcases List.mem_cons.1 h1 with rfl | h2
      · exact hr
      · exact keep o (by simp [h2]) (hq.1 o h2).symm
  · rcases List.mem_cons.1 hb' with rfl | h2
    · exact sep a (by simp [ha]) (hp.2.2 a ha r (by simp))
    · exact hp.2.2 a ha b (by simp [h2])
theorem Rows.perm {base : Nat} {w : World} {rs ss : List Row} (h : Rows base w rs) (hp : rs.Perm ss) : Rows base w ss :=
  ⟨fun r hr => h.all r (hp.mem_iff.2 hr), hp.pairwise_iff (fun h => h.symm) |>.1 h.sep⟩
/-- empty rows are free -/
theorem Rows.nil_cons {base : Nat} {w : World} {rs : List Row} (h : Rows base w rs) (e : TypeId) (size : Nat) : Rows base w (⟨e, size, .slice none 0 0, 0, []⟩ :: rs) :=
  ⟨fun r hr => by rcases List.mem_cons.1 hr with rfl | h2; exact World.ownsRow_nil _ _ _ _; exact h.all r h2, List.pairwise_cons.2 ⟨fun _ _ k hk => by simp [Value.ownBlock] at hk, h.sep⟩⟩
def SetD.rows (s : SetD) : List Row := [⟨3, 1, s.lines.val, s.lines.l.length, s.lines.l.flatMap intCells⟩, ⟨75, 7, s.items.val, s.items.l.length, s.items.l.flatMap ItemD.cells⟩, ⟨77, 3, s.bricks.val, s.bricks.l.length, s.bricks.l.flatMap BrickD.cells⟩]
def CueD.rows (q : CueD) : List Row := [⟨82, 5, q.moves.val, q.moves.l.length, q.moves.l.flatMap MoveD.cells⟩]
/-- the reader's four rows and the rows in them -/
def memRows (S : Sl SetD) (R : Sl RoofD) (C : Sl CueD) (A : Sl (ByteArray × ByteArray)) : List Row :=
  ⟨63, 13, S.val, S.l.length, S.l.flatMap SetD.cells⟩ :: ⟨73, 4, R.val, R.l.length, R.l.flatMap RoofD.cells⟩ :: ⟨80, 7, C.val, C.l.length, C.l.flatMap CueD.cells⟩ :: ⟨83, 2, A.val, A.l.length, A.l.flatMap pairCells⟩ :: (S.l.flatMap SetD.rows ++ C.l.flatMap CueD.rows)
def memRest (nm : ByteArray) (ht : Int) (S : Sl SetD) (R : Sl RoofD) (C : Sl CueD) (A : Sl (ByteArray × ByteArray)) : List Value := [.string nm, .int .i64 ht, S.val, R.val, C.val, A.val]
/-- the reader as it lies: at the n-th of the tokens, a house and a sheet in hand -/
structure RIn (rb : Nat) (tv : Value) (L : List TokD) (n : Nat) (nm : ByteArray) (ht : Int) (S : Sl SetD) (R : Sl RoofD) (C : Sl CueD) (A : Sl (ByteArray × ByteArray)) (x : World) : Prop where
  rd : Rd0 rb tv L n (memRest nm ht S R C A) x
  rows : Rows (rb + 1) x (memRows S R C A)
  low : ∀ tb cap, tv = .slice (some ⟨tb, 0, none⟩) L.length cap → tb < rb
  cnt : ∀ r ∈ memRows S R C A, r.n ≤ n
def RSt (rb : Nat) (tv : Value) (L : List TokD) (n : Nat) (h : HouseP) (c : SheetP) (x : World) : Prop :=
  ∃ (S : Sl SetD) (R : Sl RoofD) (C : Sl CueD) (A : Sl (ByteArray × ByteArray)), RIn rb tv L n h.name h.height S R C A x ∧ S.l.map SetD.pl = h.sets ∧ R.l = h.roofs ∧ C.l.map CueD.pl = c.cues ∧ A.l = c.apart
/-- the reader's block alone has turned -/
theorem RIn.kept {rb n m : Nat} {tv : Value} {L : List TokD} {nm : ByteArray} {ht : Int} {S : Sl SetD} {R : Sl RoofD} {C : Sl CueD} {A : Sl (ByteArray × ByteArray)} {x y : World} (h : RIn rb tv L n nm ht S R C A x) (hg : x.grownBy y (some rb)) (hr : Rd0 rb tv L m (memRest nm ht S R C A) y) (hnm : n ≤ m) : RIn rb tv L m nm ht S R C A y :=
  ⟨hr, h.rows.kept hg (fun k hk => by injection hk with hk; omega), h.low, fun r hm => Nat.le_trans (h.cnt r hm) hnm⟩
/-- what a method that reads a part of a source leaves: beneath the reader nothing has turned -/
def StPost (rb : Nat) (tv : Value) (L : List TokD) (x : Rd (HouseP × SheetP)) (u : World) (e : Ending) (w' : World) : Prop :=
  Below rb u w' ∧ match x with
    | .ok (a, r) => e = .returned (.tuple #[]) ∧ ∃ n, L.drop n = r ∧ RSt rb tv L n a.1 a.2 w'
    | .error q => e = .panicked [{ v := .iface 131 (.agg #[.int .i64 q.1, .int .i64 q.2]), recovered := false }]
end Go.Proofs.YtnjbfhfjdhfdlaaGreatDoor
