/- slices.Reverse at jobs: in place, in a block of their own. strings.Repeat, by the shelf's contract, laid in plain words. slices.Clone and slices.ContainsFunc at jobs, the law's two small functions, and its jobs with other names. The opposite jobs turned round; an append of a slice at a step of a drawn region; what stands in the row of both. -/
import Derived.Test.YtcdkhlndohokcaaGreatDoorVerify
import Derived.Deep.RegionLaw
import Derived.Shelf.Strings.Repeat
import Derived.Test.YtcdkhlndohokcaaGreatDoorProg
import Derived.Test.YtcdkhlndohokcaaGreatDoorBase
import Derived.Test.YtcdkhlndohokcaaGreatDoorMoveTail
import Derived.Lib.SliceRun
import Derived.Deep.RegionHeld3
import Derived.Maps.AppendAt
namespace Go.Proofs.YtcdkhlndohokcaaGreatDoor
open Go.RowKit

/-- block g of w begins with n elements; element p is X p -/
def RowFn {α : Type} (w : World) (g : Nat) (t : TypeId) (size n : Nat) (cells : α → List Value) (X : Nat → α) : Prop :=
  ∃ cur : Array Value, w.heap[g]? = some (.cells cur t (0, 0)) ∧ n * size ≤ cur.size ∧ ∀ p, p < n → ∀ c u, (cells (X p))[c]? = some u → cur[p * size + c]? = some u
section
variable {α : Type} {w w' : World} {g : Nat} {t : TypeId} {size n : Nat} {cells : α → List Value} {X Y : Nat → α}
theorem RowFn.of_block (h : RowFn w g t size n cells X) (hb : w'.heap[g]? = w.heap[g]?) : RowFn w' g t size n cells X := by
  obtain ⟨cur, h1, h2⟩ := h
  exact ⟨cur, hb.trans h1, h2⟩
theorem RowFn.congr (h : RowFn w g t size n cells X) (e : ∀ p, p < n → X p = Y p) : RowFn w g t size n cells Y := by
  obtain ⟨cur, h1, h2, h3⟩ := h
  exact ⟨cur, h1, h2, fun p hp c u hu => h3 p hp c u (by rw [e p hp]; exact hu)⟩
theorem RowFn.cell (h : RowFn w g t size n cells X) {p : Nat} (hp : p < n) {c : Nat} {u : Value} (hu : (cells (X p))[c]? = some u) : w.cell? ⟨g, p * size + c, none⟩ = some u := by
  obtain ⟨cur, h1, h2, h3⟩ := h
  rw [Lib.cell_of_heap h1]; exact h3 p hp c u hu
theorem RowFn.frozen (h : RowFn w g t size n cells X) (i : Nat) : w.frozen? ⟨g, i, none⟩ = false := by
  obtain ⟨cur, h1, _⟩ := h
  exact block_unfrozen h1 i
theorem RowFn.lt (h : RowFn w g t size n cells X) : g < w.heap.size := by
  obtain ⟨cur, h1, _⟩ := h
  exact (Array.getElem?_eq_some_iff.1 h1).1
end
theorem RowFn.drew {α : Type} {w : World} {g : Nat} {t : TypeId} {size n : Nat} {cells : α → List Value} {X : Nat → α} (h : RowFn w g t size n cells X) : RowFn w.drew g t size n cells X := h
theorem size_drew' (w : World) : w.drew.heap.size = w.heap.size := rfl
theorem grown_set {w wr : World} {g i : Nat} {v : Value} (h : w.grownBy wr (some g)) : w.grownBy (wr.setCell ⟨g, i, none⟩ v) (some g) :=
  ⟨h.os, h.tape, h.output, by simpa [World.setCell] using h.size, fun k hk hne => by rw [RowKit.Below.heap_setCell _ _ _ _ (fun e => hne (by rw [e]))]; exact h.block k hk hne⟩
theorem grown_drew {w wr : World} {g : Option Nat} (h : w.grownBy wr g) : w.grownBy wr.drew g := ⟨h.os, h.tape, h.output, h.size, h.block⟩
theorem size_set (w : World) (g i : Nat) (v : Value) : (w.setCell ⟨g, i, none⟩ v).heap.size = w.heap.size := by simp [World.setCell]
/-- the first i elements and the last i are turned -/
def turnFn {α : Type} (X : Nat → α) (n i : Nat) (p : Nat) : α := if p < i ∨ n - 1 - i < p then X (n - 1 - p) else X p
theorem turnFn_zero {α : Type} (X : Nat → α) (n p : Nat) (h : p < n) : turnFn X n 0 p = X p := by rw [turnFn, if_neg (by omega)]
theorem turnFn_done {α : Type} (X : Nat → α) (n i p : Nat) (hi : n ≤ 2 * i + 1) (hp : p < n) (h2 : 2 * i ≤ n) : turnFn X n i p = X (n - 1 - p) := by
  rw [turnFn]
  by_cases h : p < i ∨ n - 1 - i < p
  · rw [if_pos h]
  · rw [if_neg h]; congr 1; omega
theorem turnFn_next {α : Type} (X : Nat → α) (n i p : Nat) (hi : 2 * i + 1 < n) (hp : p < n) : turnFn X n (i + 1) p = if p = i then X (n - 1 - i) else if p = n - 1 - i then X i else turnFn X n i p := by
  unfold turnFn
  by_cases e1 : p = i
  · subst e1; rw [if_pos (by omega), if_pos rfl]
  · rw [if_neg e1]
    by_cases e2 : p = n - 1 - i
    · rw [if_pos e2, if_pos (by omega), e2]; congr 1; omega
    · rw [if_neg e2]
      by_cases e3 : p < i ∨ n - 1 - i < p
      · rw [if_pos e3, if_pos (by omega)]
      · rw [if_neg e3, if_neg (by omega)]
theorem RowFn.set3 {α : Type} {w : World} {g n : Nat} {t : TypeId} {cells : α → List Value} {X : Nat → α} (HC : ∀ x, (cells x).length = 3) (h : RowFn w g t 3 n cells X) {p : Nat} (hp : p < n) {x : α} {v0 v1 v2 : Value} (hx : cells x = [v0, v1, v2]) :
    RowFn (((w.setCell ⟨g, p * 3, none⟩ v0).setCell ⟨g, p * 3 + 1, none⟩ v1).setCell ⟨g, p * 3 + 2, none⟩ v2) g t 3 n cells (fun q => if q = p then x else X q) := by
  obtain ⟨cur, h1, h2, h3⟩ := h
  refine ⟨(((cur.setIfInBounds (p * 3) v0).setIfInBounds (p * 3 + 1) v1).setIfInBounds (p * 3 + 2) v2), (block_set (block_set (block_set h1 _) _) _), by simpa using h2, fun q hq c u hu => ?_⟩
  have hu : (cells (if q = p then x else X q))[c]? = some u := hu
  by_cases e : q = p
  · subst e
    rw [if_pos rfl, hx] at hu
    have hlt : c < 3 := by have := (List.getElem?_eq_some_iff.1 hu).1; simpa using this
    have hin : q * 3 + 3 < cur.size + 1 := by
      have : (q + 1) * 3 ≤ n * 3 := Nat.mul_le_mul_right 3 hq
      rw [Nat.succ_mul] at this; omega
    match c, hlt with
    | 0, _ => simp at hu; subst hu; simp [Array.getElem?_setIfInBounds]; omega
    | 1, _ => simp at hu; subst hu; simp [Array.getElem?_setIfInBounds]; omega
    | 2, _ => simp at hu; subst hu; simp [Array.getElem?_setIfInBounds]; omega
  · rw [if_neg e] at hu
    have := h3 q hq c u hu
    have hlen := (List.getElem?_eq_some_iff.1 hu).1
    have hc := HC (X q)
    have hne : ∀ d, d < 3 → p * 3 + d ≠ q * 3 + c := fun d hd he => by
      rcases Nat.lt_or_gt_of_ne e with e2 | e2
      · have : (q + 1) * 3 ≤ p * 3 := Nat.mul_le_mul_right 3 e2
        rw [Nat.succ_mul] at this; omega
      · have : (p + 1) * 3 ≤ q * 3 := Nat.mul_le_mul_right 3 e2
        rw [Nat.succ_mul] at this; omega
    simp only [Array.getElem?_setIfInBounds]
    rw [if_neg (hne 2 (by omega))]
    rw [if_neg (hne 1 (by omega))]
    rw [if_neg (by simpa using hne 0 (by omega))]
    exact this
set_option maxRecDepth 100000 in
set_option maxHeartbeats 4000000 in
theorem reverseJ_any (X : Nat → JobD) (n g cap : Nat) (hn : 1 ≤ n) (hn2 : n ≤ 1000) (hcap : n ≤ cap) (hcap2 : cap ≤ 9223372036854775807) (w : World) (h : RowFn w g 37 3 n JobD.cells X) :
    Calls Tryz.prog 18 #[.slice (some ⟨g, 0, none⟩) n cap] w fun e w' => e = .returned (.tuple #[]) ∧ RowFn w' g 37 3 n JobD.cells (fun p => X (n - 1 - p)) ∧ w.grownBy w' (some g) ∧ w'.heap.size = w.heap.size := by
  have HH := hide h
  clear h
  go_enter Tryz.func18, Tryz.ntmps18
  go_wp2
  go_loopw [2, 3] (fun u v wr => ∃ i j : Nat, u = .int .i64 i ∧ v = .int .i64 j ∧ i + j = n - 1 ∧ i ≤ j + 1 ∧ Hid (RowFn wr g 37 3 n JobD.cells (turnFn X n i)) ∧ Hid (w.grownBy wr (some g)) ∧ wr.heap.size = w.heap.size) (fun _ v _ => (intOf v).toNat)
  case atStart => exact ⟨0, n - 1, rfl, by go_num, by omega, by omega, hide (HH.out.congr fun p hp => (turnFn_zero X n p hp).symm), hide (World.grownBy.refl _ _), rfl⟩
  case round =>
    obtain ⟨i, j, rfl, rfl, hij, hij2, hrow, hgr, hsz⟩ := hrel
    by_cases hlt : i < j
    · obtain ⟨x, hx⟩ : ∃ x, x = turnFn X n i i := ⟨_, rfl⟩
      obtain ⟨y, hy⟩ : ∃ y, y = turnFn X n i j := ⟨_, rfl⟩
      have hci : wr.cell? ⟨g, i * 3, none⟩ = some (.string x.name) ∧ wr.cell? ⟨g, i * 3 + 1, none⟩ = some (.bool x.pipe) ∧ wr.cell? ⟨g, i * 3 + 2, none⟩ = some (.int .i64 x.weight) := ⟨by simpa using hrow.out.cell (c := 0) (show i < n by omega) (by rw [← hx]; rfl), by simpa using hrow.out.cell (c := 1) (show i < n by omega) (by rw [← hx]; rfl), by simpa using hrow.out.cell (c := 2) (show i < n by omega) (by rw [← hx]; rfl)⟩
      have hcj : wr.cell? ⟨g, j * 3, none⟩ = some (.string y.name) ∧ wr.cell? ⟨g, j * 3 + 1, none⟩ = some (.bool y.pipe) ∧ wr.cell? ⟨g, j * 3 + 2, none⟩ = some (.int .i64 y.weight) := ⟨by simpa using hrow.out.cell (c := 0) (show j < n by omega) (by rw [← hy]; rfl), by simpa using hrow.out.cell (c := 1) (show j < n by omega) (by rw [← hy]; rfl), by simpa using hrow.out.cell (c := 2) (show j < n by omega) (by rw [← hy]; rfl)⟩
      have hfz := fun p => hrow.out.frozen p
      have hin : (i : Int) < (n : Int) := by omega
      have hi0 : (0 : Int) ≤ (i : Int) := by omega
      have hjn : (j : Int) < (n : Int) := by omega
      have hj0 : (0 : Int) ≤ (j : Int) := by omega
      have HX := hide hx
      have HY := hide hy
      have hzg := hrow.out.lt
      clear hx hy
      go_wp2
      go_region
      go_simp
      go_wp2
      refine ⟨⟨i + 1, j - 1, by go_num, by go_num, by omega, by omega, hide (((RowFn.set3 (fun _ => rfl) (RowFn.set3 (fun _ => rfl) hrow.out (p := i) (by omega) (x := y) rfl) (p := j) (by omega) (x := x) rfl).drew).congr fun p hp => ?_), hide (grown_drew (grown_set (grown_set (grown_set (grown_set (grown_set (grown_set hgr.out))))))), by rw [size_drew', size_set, size_set, size_set, size_set, size_set, size_set]; exact hsz⟩, by simp [intOf]; omega⟩
      have hj : j = n - 1 - i := by omega
      rw [turnFn_next X n i p (by omega) hp, HX.out, HY.out]
      simp only [← hj]
      by_cases e1 : p = i
      · rw [if_pos e1, if_neg (by omega), if_pos e1]
        rw [turnFn, if_neg (by omega), hj]
      · rw [if_neg e1]
        by_cases e2 : p = j
        · rw [if_pos e2, if_pos e2, turnFn, if_neg (by omega), if_neg e1]
        · rw [if_neg e2, if_neg e2, if_neg e1]
    · go_wp2
      go_end0
      exact ⟨rfl, hrow.out.congr fun p hp => turnFn_done X n i p (by omega) hp (by omega), hgr.out, hsz⟩
end Go.Proofs.YtcdkhlndohokcaaGreatDoor
namespace Go.Proofs.YtcdkhlndohokcaaGreatDoor
open Go.RowKit Go.Shelf

def laysRepeat_ren : Go.Shelf.Ren := ⟨fun | 105 => 45 | 212 => 62 | 99 => 17 | 165 => 63 | 166 => 64 | 170 => 51 | 169 => 52 | 263 => 85 | 264 => 86 | 206 => 44 | 240 => 87 | 241 => 88 | 276 => 101 | 277 => 102 | n => n, fun | 9 => 9 | 3 => 3 | 4 => 4 | 20 => 20 | 0 => 0 | 46 => 110 | 109 => 111 | 5 => 5 | 72 => 88 | 76 => 116 | 51 => 137 | 146 => 138 | 53 => 140 | 148 => 141 | 70 => 85 | 37 => 86 | 75 => 115 | 127 => 126 | 164 => 151 | 80 => 101 | n => n, fun | n => n⟩
theorem laysRepeat : Go.Proofs.Lays.n105 Tryz.prog laysRepeat_ren := {
  mixed := by kernel_rfl
  f99 := Tryz.func17.trans (congrArg some (by kernel_rfl))
  f105 := Tryz.func45.trans (congrArg some (by kernel_rfl))
  f165 := Tryz.func63.trans (congrArg some (by kernel_rfl))
  f166 := Tryz.func64.trans (congrArg some (by kernel_rfl))
  f169 := Tryz.func52.trans (congrArg some (by kernel_rfl))
  f170 := Tryz.func51.trans (congrArg some (by kernel_rfl))
  f206 := Tryz.func44.trans (congrArg some (by kernel_rfl))
  f212 := Tryz.func62.trans (congrArg some (by kernel_rfl))
  f240 := Tryz.func87.trans (congrArg some (by kernel_rfl))
  f241 := Tryz.func88.trans (congrArg some (by kernel_rfl))
  f263 := Tryz.func85.trans (congrArg some (by kernel_rfl))
  f264 := Tryz.func86.trans (congrArg some (by kernel_rfl))
  f276 := Tryz.func101.trans (congrArg some (by kernel_rfl))
  f277 := Tryz.func102.trans (congrArg some (by kernel_rfl))
  t0 := Tryz.underlying0
  a0 := Tryz.isAgg0
  z0 := Tryz.sizeOf0
  v0 := Tryz.zeroValue0
  t3 := Tryz.underlying3
  a3 := Tryz.isAgg3
  z3 := Tryz.sizeOf3
  v3 := Tryz.zeroValue3
  t4 := Tryz.underlying4
  a4 := Tryz.isAgg4
  z4 := Tryz.sizeOf4
  v4 := Tryz.zeroValue4
  t5 := Tryz.underlying5
  a5 := Tryz.isAgg5
  z5 := Tryz.sizeOf5
  v5 := Tryz.zeroValue5
  t9 := Tryz.underlying9
  a9 := Tryz.isAgg9
  z9 := Tryz.sizeOf9
  v9 := Tryz.zeroValue9
  t20 := Tryz.underlying20
  a20 := Tryz.isAgg20
  z20 := Tryz.sizeOf20
  v20 := Tryz.zeroValue20
  t37 := Tryz.underlying86
  a37 := Tryz.isAgg86
  z37 := Tryz.sizeOf86
  v37 := Tryz.zeroValue86
  t46 := Tryz.underlying110
  a46 := Tryz.isAgg110
  z46 := Tryz.sizeOf110
  v46 := Tryz.zeroValue110
  t51 := Tryz.underlying137
  a51 := Tryz.isAgg137
  z51 := Tryz.sizeOf137
  v51 := Tryz.zeroValue137
  t53 := Tryz.underlying140
  a53 := Tryz.isAgg140
  z53 := Tryz.sizeOf140
  v53 := Tryz.zeroValue140
  t70 := Tryz.underlying85
  a70 := Tryz.isAgg85
  z70 := Tryz.sizeOf85
  v70 := Tryz.zeroValue85
  t72 := Tryz.underlying88
  a72 := Tryz.isAgg88
  z72 := Tryz.sizeOf88
  v72 := Tryz.zeroValue88
  t75 := Tryz.underlying115
  a75 := Tryz.isAgg115
  z75 := Tryz.sizeOf115
  v75 := Tryz.zeroValue115
  t76 := Tryz.underlying116
  a76 := Tryz.isAgg116
  z76 := Tryz.sizeOf116
  v76 := Tryz.zeroValue116
  t109 := Tryz.underlying111
  a109 := Tryz.isAgg111
  z109 := Tryz.sizeOf111
  v109 := Tryz.zeroValue111
  t127 := Tryz.underlying126
  a127 := Tryz.isAgg126
  z127 := Tryz.sizeOf126
  v127 := Tryz.zeroValue126
  t146 := Tryz.underlying138
  a146 := Tryz.isAgg138
  z146 := Tryz.sizeOf138
  v146 := Tryz.zeroValue138
  t148 := Tryz.underlying141
  a148 := Tryz.isAgg141
  z148 := Tryz.sizeOf141
  v148 := Tryz.zeroValue141
  t164 := Tryz.underlying151
  a164 := Tryz.isAgg151
  z164 := Tryz.sizeOf151
  v164 := Tryz.zeroValue151 }
theorem extraRepeat : Builder.Extra Tryz.prog laysRepeat_ren := {
  sizeBuilder := by kernel_rfl
  liesBuilder := by kernel_rfl
  t5 := Tryz.underlying5
  a5 := Tryz.isAgg5
  z5 := Tryz.sizeOf5
  v5 := Tryz.zeroValue5
  infoByte := by kernel_rfl
  cellsByte := by kernel_rfl
  sizeByte := by kernel_rfl
  neB5 := by decide }
theorem strRepeat_any (s : ByteArray) (c : Nat) (w : World) (hc : c ≤ 9223372036854775807) (hlen : s.size * c ≤ 140737488355328) :
    Calls Tryz.prog 45 #[.string s, .int .i64 c] w (Gives w (.string ⟨(Lib.repeatL s.data.toList c).toArray⟩)) := (Any.strings_Repeat laysRepeat extraRepeat s c w hc hlen).mono fun _ _ ⟨he, hw⟩ => ⟨he, hw⟩
end Go.Proofs.YtcdkhlndohokcaaGreatDoor
namespace Go.Proofs.YtcdkhlndohokcaaGreatDoor
open Go Go.RowKit Go.Maps Go.Deep

theorem slAt_flatJ {w : World} {B cap : Nat} {a : Addr} {l : List JobD} (h : SlAt w B 3 JobD.cells ⟨some a, cap, l⟩) : ∀ q u, (l.flatMap JobD.cells)[q]? = some u → w.cell? (a.add q) = some u := fun q u hq => by
  rcases Nat.eq_zero_or_pos l.length with h0 | h0
  · have : l = [] := List.eq_nil_of_length_eq_zero h0
    subst this
    simp at hq
  · obtain ⟨b, off, e, _, hc⟩ := h.2.2 h0
    injection e with e
    subst e
    exact rslAt_news jobCells_len hc q u hq
theorem slAt_nilJ {w : World} {B cap : Nat} {l : List JobD} (h : SlAt w B 3 JobD.cells ⟨none, cap, l⟩) : l = [] := by
  rcases Nat.eq_zero_or_pos l.length with h0 | h0
  · exact List.eq_nil_of_length_eq_zero h0
  · obtain ⟨b, off, e, _⟩ := h.2.2 h0
    cases e
theorem jobs_one' (l : List JobD) : ∀ u ∈ l.flatMap JobD.cells, u.oneCell' = true := fun u hu => by
  obtain ⟨x, _, h⟩ := List.mem_flatMap.1 hu
  simp [JobD.cells] at h
  rcases h with rfl | rfl | rfl <;> rfl
set_option maxRecDepth 100000 in
set_option maxHeartbeats 2000000 in
theorem cloneJ_any (A : Option Addr) (cap : Nat) (l : List JobD) (hl : l.length ≤ 1000) (w : World) (B : Nat) (hs : SlAt w B 3 JobD.cells ⟨A, cap, l⟩) :
    Calls Tryz.prog 19 #[.slice A l.length cap] w fun e w' => ∃ v, e = .returned v ∧ OwnSt 37 3 JobD.cells w v l w' := by
  obtain ⟨i0, hi, hz0, hz1, hz2⟩ := infoJob_parts
  have qn : ∀ (w : World) (a : Option Addr) (n c n' c' : Nat), (binOp .eql 27 (.slice a n c) (.slice none n' c')).run Tryz.prog w = .ok (.bool a.isNone) w := fun w a n c n' c' => Lib.run_eql_slice_nil w _ _ a n c n' c' Tryz.underlying27
  cases A with
  | none =>
    have := slAt_nilJ hs
    subst this
    go_enter Tryz.func19, Tryz.ntmps19
    go_wp2
    go_ret
    exact ⟨_, rfl, OwnSt.start _ _ _ (Below.refl _ _)⟩
  | some a =>
    have HN := hide (slAt_flatJ hs)
    clear hs
    go_enter Tryz.func19, Tryz.ntmps19
    go_wp2_with (at_builtin; refine wpList_append_own _ rfl _ _ 27 rfl w.heap.size 37 i0 _ 3 32 Tryz.underlying27 hi hz0 hz1 hz2 rfl (by decide) _ _ _ rfl (World.ownsRow_made w #[] 0 (Nat.le_refl _) (Nat.zero_le _) rfl) a l.length cap (l.flatMap JobD.cells) rfl (by rw [rflat_len jobCells_len]) (fun q u hq => by rw [Lib.cell?_alloc_some _ (HN.out q u hq)]) (jobs_one' l) (by unfold maxLen; omega) (by omega) (by simp) ?_)
    intro v' w1 hown hgrow _
    go_wp2
    go_ret
    exact ⟨v', rfl, by simpa using hown, ((Below.refl _ w).alloc (Nat.le_refl _) _).grown hgrow (by simp) (by intro k hk; simp [Value.ownBlock] at hk; omega)⟩
theorem repeat_one : ∀ c, Lib.repeatL [120] c = List.replicate c 120
  | 0 => rfl
  | c + 1 => by rw [Lib.repeatL, repeat_one c]; rfl
theorem bname_sum (k : Nat) : (⟨#[119, 95, 98, 97, 99, 107, 95]⟩ : ByteArray) ++ ⟨(Lib.repeatL [120] (k + 1)).toArray⟩ = bname k := by
  refine bs_inj ?_
  rw [bs_data, bs_data, repeat_one]
  simp [bname, preB]
set_option maxRecDepth 100000 in
set_option maxHeartbeats 4000000 in
/-- the jobs with other names -/
theorem back_any (A : Option Addr) (cap : Nat) (l : List JobD) (hl : l.length ≤ 10) (w : World) (hs : SlAt w w.heap.size 3 JobD.cells ⟨A, cap, l⟩) :
    Calls Tryz.prog 20 #[.slice A l.length cap] w fun e w' => ∃ v, e = .returned v ∧ OwnSt 37 3 JobD.cells w v (renL 0 l) w' := by
  obtain ⟨i0, hi, hz0, hz1, hz2⟩ := infoJob_parts
  have HI := hide (And.intro hi (And.intro hz0 (And.intro hz1 hz2)))
  have hm1 : l.length ≤ cap := hs.1
  have hm2 : cap ≤ 9223372036854775807 := hs.2.1
  have HS := hide hs
  clear hs hi hz0 hz1 hz2
  go_enter Tryz.func20, Tryz.ntmps20
  go_wp2_with fail
  go_loopw [3, 7] (fun v3 v wr => ∃ k : Nat, v = .int .i64 k ∧ k ≤ l.length ∧ Hid (OwnSt 37 3 JobD.cells w v3 ((renL 0 l).take k) wr)) (fun _ v _ => l.length - (intOf v).toNat)
  case atStart => exact ⟨0, rfl, Nat.zero_le _, hide (OwnSt.start _ _ _ (Below.refl _ _))⟩
  case round =>
    obtain ⟨k, rfl, hk, hst⟩ := hrel
    by_cases hlt : k < l.length
    · obtain ⟨b, off, hA, hb, hcell⟩ := HS.out.2.2 (show 0 < l.length by omega)
      simp only at hA
      subst hA
      obtain ⟨x, hx⟩ : ∃ x, l[k]? = some x := ⟨l[k], List.getElem?_eq_getElem hlt⟩
      have hcV := fun y : After w.heap.size w => JobD.elem hx hb hcell y
      have htk := renL_take (k := 0) hx
      rw [Nat.zero_add] at htk
      have hlen : ((renL 0 l).take k).length = k := by rw [List.length_take, renL_len]; omega
      obtain ⟨L, hL⟩ : ∃ L, L = (renL 0 l).take k := ⟨_, rfl⟩
      rw [← hL] at hst htk hlen
      have KR := hide (fun z : World => strRepeat_any ⟨#[120]⟩ (k + 1) z (by omega) (by show 1 * (k + 1) ≤ _; omega))
      obtain ⟨R, hR⟩ : ∃ R : ByteArray, R = ⟨(Lib.repeatL (⟨#[120]⟩ : ByteArray).data.toList (k + 1)).toArray⟩ := ⟨_, rfl⟩
      rw [← hR, show ((k + 1 : Nat) : Int) = (k : Int) + 1 by omega] at KR
      have HTK := hide htk
      have HLN := hide hlen
      have HR := hide hR
      have hrs : R.size = k + 1 := by rw [hR]; show (Lib.repeatL [120] (k + 1)).toArray.size = k + 1; rw [repeat_one]; simp
      have HNM := hide (show (⟨#[119, 95, 98, 97, 99, 107, 95]⟩ : ByteArray) ++ R = bname k by rw [hR]; exact bname_sum k)
      have hws := hst.out.bel.size
      have HOWN := hide (fun (w5 : World) (hb5 : Below wr.drew.heap.size wr.drew w5) => (show OwnSt 37 3 JobD.cells w u3 L w5 from hst.out.more ((Below.drew (Below.refl _ _)).trans hb5)))
      have hk0 : (0 : Int) ≤ (k : Int) := by omega
      have hk1 : (k : Int) < (l.length : Int) := by omega
      have hk2 : ¬ 9223372036854775807 < 7 + R.size := by omega
      clear hcell hx htk hlen hL hR
      go_upto_region 5 with fail
      have hc := fun y : After wr.heap.size wr => (hcV ⟨y.val, hst.out.bel.trans (y.below.mono hws)⟩).2
      simp only at hc
      have hc0 := hc (After.refl _ _)
      simp only [After.refl] at hc0
      have KR2 := hide (fun y : After wr.heap.size wr => Gives.after (x := y) (Nat.le_refl _) (KR.out y.val))
      have HST := hide (fun y : After wr.heap.size wr => hst.out.more y.below)
      clear hcV hst HOWN KR
      refine wp_move_tail wr.heap.size 16 (Operand.tmp 3) (by kernel_rfl) (by kernel_rfl) rfl rfl (fun _ _ _ _ h => h) ?_
      simp only [List.take_succ_cons, List.take_zero, List.drop_succ_cons, List.drop_zero]
      go_simp
      repeat (go_big_quiet_step ((go_at_call 45; exact KR2.out _)))
      refine wpQuiet_nil ?_
      intro z
      clear hc hc0
      have hz := (HST.out z).more ((Below.refl _ _).alloc (Nat.le_refl _) (.cells #[.string (⟨#[119, 95, 98, 97, 99, 107, 95]⟩ ++ R), .bool x.pipe, .int .i64 x.weight] 37 (0, 0)))
      have hzs := (HST.out z).bel.size
      have HZ := hide hz
      clear hz
      go_wp2_with (at_builtin; refine Hid.out ?_)
      refine Lib.hid ?_
      refine wpList_append_lies _ rfl _ _ 27 rfl w.heap.size 37 i0 _ 3 32 Tryz.underlying27 HI.out.1 HI.out.2.1 HI.out.2.2.1 HI.out.2.2.2 rfl (by decide) _ L.length (L.flatMap JobD.cells) rfl HZ.out.own ⟨z.val.heap.size, 0, none⟩ 1 1 [.string (⟨#[119, 95, 98, 97, 99, 107, 95]⟩ ++ R), .bool x.pipe, .int .i64 x.weight] rfl rfl (World.news_of_block (heap_alloc_new z.val _)) (job_one ⟨_, _, _⟩) (by omega) (by have := HLN.out; unfold maxLen; omega) (by have := HLN.out; omega) (by simp; omega) (z.val.heap.size + 1) (by simp) ?_
      intro g6 cap6 w6 hown6 hgr6 _ _
      have hst6 := OwnSt.append (ls := [⟨bname k, x.pipe, x.weight⟩]) (HST.out z) ((Below.refl _ _).alloc (Nat.le_refl _) _) (by rw [← HNM.out]; simpa [JobD.cells] using hown6) hgr6
      have HC := hide (show OwnSt 37 3 JobD.cells w (.slice (some ⟨g6, 0, none⟩) (L.length + 1) cap6) ((renL 0 l).take (k + 1)) w6 by rw [HTK.out]; exact hst6)
      clear hst6 hown6 hgr6
      go_wp2_with fail
      exact ⟨⟨k + 1, by go_num, by omega, HC⟩, by simp [intOf]; omega⟩
    · have HC := hide (show OwnSt 37 3 JobD.cells w u3 (renL 0 l) wr by
        have h := hst.out
        rwa [List.take_of_length_le (by rw [renL_len]; omega)] at h)
      clear hst
      go_wp2_with fail
      go_ret
      exact ⟨_, rfl, HC.out⟩
end Go.Proofs.YtcdkhlndohokcaaGreatDoor
namespace Go.Proofs.YtcdkhlndohokcaaGreatDoor
open Go Go.RowKit

theorem slAtN_flat {α : Type} {w : World} {B size cap : Nat} {cells : α → List Value} (hs : ∀ x, (cells x).length = size) {a : Addr} {l : List α} (h : SlAt w B size cells ⟨some a, cap, l⟩) : ∀ q u, (l.flatMap cells)[q]? = some u → w.cell? (a.add q) = some u := fun q u hq => by
  rcases Nat.eq_zero_or_pos l.length with h0 | h0
  · have : l = [] := List.eq_nil_of_length_eq_zero h0
    subst this
    simp at hq
  · obtain ⟨b, off, e, _, hc⟩ := h.2.2 h0
    injection e with e
    subst e
    exact rslAt_news hs hc q u hq
theorem slAtN_nil {α : Type} {w : World} {B size cap : Nat} {cells : α → List Value} {l : List α} (h : SlAt w B size cells ⟨none, cap, l⟩) : l = [] := by
  rcases Nat.eq_zero_or_pos l.length with h0 | h0
  · exact List.eq_nil_of_length_eq_zero h0
  · obtain ⟨b, off, e, _⟩ := h.2.2 h0
    cases e
theorem grown_refl (w : World) (b : Option Nat) : w.grownBy w b := ⟨rfl, rfl, rfl, Nat.le_refl _, fun _ _ _ => rfl⟩
section
variable {P : Program} {ops : Array Oper} {o : Oper} {a : Act} {K : Act → World → Prop} {Q : Exit → Act → World → Prop} {E : Prop} {α : Type} {cells : α → List Value} {size : Nat}
theorem step_sl (w : World) (hw : Region.wanted o (yielded ops a.tmps) = true) (s x : Operand) (t : TypeId) (ho : o.op = .call { callee := .builtin .append, args := #[s, x], argTypes := #[t, t] })
    (base : Nat) (e : TypeId) (i : TypeInfo) (z : Value) (bytes : Nat) (ht : P.underlying t = some (.slice e)) (hi : P.info? e = some i) (hz : i.zero = some z)
    (hsize : i.size = size) (hby : i.bytes = bytes) (hzs : z.cells.size = size) (hsz : 0 < size)
    (v : Value) (n : Nat) (xs : List Value) (hs : a.eval s = v) (hown : w.ownsRow base e size v n xs)
    (A : Option Addr) (cap : Nat) (l : List α) (hA : A = none → cap = 0) (hc : ∀ x, (cells x).length = size) (hsl : ∃ B, SlAt w B size cells ⟨A, cap, l⟩) (hx : a.eval x = .slice A l.length cap) (h1 : ∀ u ∈ l.flatMap cells, u.oneCell' = true)
    (h63 : n + l.length ≤ maxLen) (hbytes : (n + l.length) * bytes ≤ 140737488355328) (hbase : base ≤ w.heap.size)
    (h : ∀ v' w', w'.ownsRow base e size v' (n + l.length) (xs ++ l.flatMap cells) → w.grownBy w' v.ownBlock → K (a.put o.dst v') w') :
    if Region.wanted o (yielded ops a.tmps) = true then Oper.wp P o a w K Q else E := by
  rw [if_pos hw]
  obtain ⟨B, hsl⟩ := hsl
  cases A with
  | none =>
    have hl := slAtN_nil hsl
    have hcz := hA rfl
    subst hl hcz
    have hrun := run_append_owned_none (P := P) (w := w) base t o.type e i size ht hi v n xs hown
    unfold Oper.wp
    simp [execOp, ho, resolve, invoke, builtin, hs, hx, hrun, Result.andThen]
    exact h v w (by simpa using hown) (grown_refl _ _)
  | some ad => exact wp_append_own w s x t ho base e i z size bytes ht hi hz hsize hby hzs hsz v n xs hs hown ad l.length cap (l.flatMap cells) hx (by rw [rflat_len hc]) (slAtN_flat hc hsl) h1 h63 hbytes hbase fun v' w' h2 h3 _ => h v' w' h2 h3
end
/-- what stands in an own row of jobs -/
theorem own_fn {W x : World} {g cap : Nat} {L : List JobD} (h : OwnSt 37 3 JobD.cells W (.slice (some ⟨g, 0, none⟩) L.length cap) L x) : RowFn x g 37 3 L.length JobD.cells (fun p => L.getD p ⟨⟨#[]⟩, false, 0⟩) := by
  rcases h.own.2 with ⟨hv, h0⟩ | ⟨g', cap', cur, hv, hg, hh, hnc, hcm, hcs, htake⟩
  · injection hv with h1; cases h1
  · injection hv with h1 h2 h3
    injection h1 with h1
    injection h1 with h1
    subst h1
    refine ⟨cur, hh, ?_, fun p hp c u hu => ?_⟩
    · have h4 := congrArg List.length htake
      rw [rflat_len jobCells_len, List.length_take, Array.length_toList] at h4
      omega
    · have hx : L[p]? = some L[p] := List.getElem?_eq_getElem hp
      have hg0 : L.getD p ⟨⟨#[]⟩, false, 0⟩ = L[p] := by rw [List.getD, hx]; rfl
      have hu2 : (L[p]).cells[c]? = some u := by rw [← hg0]; exact hu
      have h5 := rflat_at jobCells_len L p L[p] c u hx hu2
      have hc := (List.getElem?_eq_some_iff.1 hu2).1
      rw [show (L[p]).cells.length = 3 from rfl] at hc
      rw [← htake, List.getElem?_take] at h5
      rw [if_pos (by have : (p + 1) * 3 ≤ L.length * 3 := Nat.mul_le_mul_right 3 hp
                     omega)] at h5
      rw [← Array.getElem?_toList]
      exact h5
theorem fn_sl {w : World} {g cap : Nat} {L : List JobD} {X : Nat → JobD} (h : RowFn w g 37 3 L.length JobD.cells X) (hX : ∀ p x, L[p]? = some x → X p = x) (h1 : L.length ≤ cap) (h2 : cap ≤ maxLen) : SlAt w w.heap.size 3 JobD.cells ⟨some ⟨g, 0, none⟩, cap, L⟩ :=
  ⟨h1, h2, fun _ => ⟨g, 0, rfl, h.lt, fun i x hx j u hu => by
    rw [Nat.zero_add]
    exact h.cell (List.getElem?_eq_some_iff.1 hx).1 (by rw [hX i x hx]; exact hu)⟩⟩
set_option maxRecDepth 100000 in
set_option maxHeartbeats 2000000 in
theorem reverseJ_nil (A : Option Addr) (cap : Nat) (w : World) : Calls Tryz.prog 18 #[.slice A 0 cap] w fun e w' => e = .returned (.tuple #[]) ∧ w' = w := by
  go_enter Tryz.func18, Tryz.ntmps18
  go_wp2
  go_loopw [2, 3] (fun u v wr => u = .int .i64 0 ∧ v = .int .i64 (-1) ∧ wr = w) (fun _ _ _ => 0)
  case atStart => exact ⟨rfl, rfl, rfl⟩
  case round =>
    obtain ⟨rfl, rfl, rfl⟩ := hrel
    go_wp2
    go_end0
    exact ⟨rfl, rfl⟩
/-- an own row of jobs, turned round -/
theorem reverseJ_own {W x : World} {v : Value} {L : List JobD} (h : OwnSt 37 3 JobD.cells W v L x) (hL : L.length ≤ 1000) :
    Calls Tryz.prog 18 #[v] x fun e w' => e = .returned (.tuple #[]) ∧ Below W.heap.size W w' ∧ x.heap.size ≤ w'.heap.size ∧ ∃ A cap, v = .slice A L.length cap ∧ SlAt w' w'.heap.size 3 JobD.cells ⟨A, cap, L.reverse⟩ := by
  obtain ⟨A, cap, rfl, hsl⟩ := h.slAt jobCells_len
  rcases h.own.2 with ⟨hv, h0⟩ | ⟨g, cap', cur, hv, hg, hh, hnc, hcm, -⟩
  · injection hv with h1 h2 h3
    subst h1 h3
    have hl : L = [] := List.eq_nil_of_length_eq_zero h0
    subst hl
    exact (reverseJ_nil none 0 x).mono fun e w' ⟨he, hw⟩ => ⟨he, by rw [hw]; exact h.bel, by rw [hw]; exact Nat.le_refl _, none, 0, rfl, Nat.le_refl _, Nat.zero_le _, fun h => absurd h (by simp)⟩
  · injection hv with h1 h2 h3
    subst h1 h3
    rcases Nat.eq_zero_or_pos L.length with h0 | h0
    · have hl : L = [] := List.eq_nil_of_length_eq_zero h0
      subst hl
      exact (reverseJ_nil _ cap x).mono fun e w' ⟨he, hw⟩ => ⟨he, by rw [hw]; exact h.bel, by rw [hw]; exact Nat.le_refl _, _, cap, rfl, hnc, hcm, fun h => absurd h (by simp)⟩
    · have hf := own_fn h
      refine (reverseJ_any _ L.length g cap h0 hL hnc hcm x hf).mono fun e w' ⟨he, hr, hgr, hsz⟩ => ⟨he, ?_, by omega, _, cap, rfl, ?_⟩
      · exact Below.grown h.bel hgr h.bel.size (fun k hk => by injection hk with hk; omega)
      · have h5 := fn_sl (L := L.reverse) (cap := cap) (X := fun p => L.getD (L.length - 1 - p) ⟨⟨#[]⟩, false, 0⟩) (by rw [List.length_reverse]; exact hr) (fun p y hy => by
          have hp := (List.getElem?_eq_some_iff.1 hy).1
          rw [List.length_reverse] at hp
          rw [List.getElem?_reverse hp] at hy
          rw [List.getD, hy]; rfl) (by rw [List.length_reverse]; exact hnc) hcm
        exact h5
/-- the opposite jobs are fit to be walked -/
theorem okL_back {l : List JobD} (h : ∀ x ∈ l, -1048576 ≤ x.weight ∧ x.weight ≤ 1048576) (hl : l.length ≤ 10) : ∀ x ∈ backL l, x.ok := fun y hy => by
  obtain ⟨j, hj⟩ := List.getElem?_of_mem hy
  have hjl := (List.getElem?_eq_some_iff.1 hj).1
  unfold backL at hj hjl
  rw [renL_len, List.length_reverse, List.length_map] at hjl
  rw [renL_get] at hj
  obtain ⟨z, hz, rfl⟩ := Option.map_eq_some_iff.1 hj
  have hm := List.mem_of_getElem? hz
  rw [List.mem_reverse] at hm
  obtain ⟨x, hx, rfl⟩ := List.mem_map.1 hm
  obtain ⟨h1, h2⟩ := h x hx
  refine ⟨?_, ?_⟩
  · show (bname (0 + j)).size ≤ maxLen
    have : (bname (0 + j)).size = 7 + (j + 1) := by
      show (preB ++ List.replicate (0 + j + 1) 120).toArray.size = _
      simp [preB]
      omega
    rw [this]; unfold maxLen; omega
  · show I64 (-x.weight)
    unfold I64; omega
end Go.Proofs.YtcdkhlndohokcaaGreatDoor
