/- Jobs in the order of a load-in, and the opposite jobs behind them: plain law. Own rows of elements of several cells that are being made. verify.Balance: the claim about a safe load-in is right. -/
import Derived.Test.YtcdkhlndohokcaaGreatDoorLatTop
import Derived.Test.YtcdkhlndohokcaaGreatDoorBrakeWide
import Derived.Test.YtcdkhlndohokcaaGreatDoorNames
import Derived.Lib.Strings
import Derived.Test.YtcdkhlndohokcaaGreatDoorOwn
import Derived.Maps.AppendAt
import Derived.Test.YtcdkhlndohokcaaGreatDoorLatProves
import Derived.OneCell
namespace Go.Proofs.YtcdkhlndohokcaaGreatDoor
open Go

theorem nodup_get {α : Type} {l : List α} : l.Nodup ↔ ∀ i j : Nat, i < j → j < l.length → l[i]? ≠ l[j]? := by
  unfold List.Nodup
  rw [List.pairwise_iff_getElem]
  constructor
  · intro h i j hij hj e
    rw [List.getElem?_eq_getElem hj, List.getElem?_eq_getElem (by omega)] at e
    injection e with e
    exact h i j (by omega) hj hij e
  · intro h i j hi hj hij e
    refine h i j hij hj ?_
    rw [List.getElem?_eq_getElem hj, List.getElem?_eq_getElem hi, e]
/-- the jobs in an order -/
def turnL (l : List JobD) (o : List Nat) : List JobD := o.filterMap fun i => l[i]?
theorem turnL_take {l : List JobD} {o : List Nat} {k i : Nat} {x : JobD} (h1 : o[k]? = some i) (h2 : l[i]? = some x) : turnL l (o.take (k + 1)) = turnL l (o.take k) ++ [x] := by
  unfold turnL
  rw [List.take_add_one, h1, List.filterMap_append]
  simp [h2]
theorem turnL_cons {l : List JobD} {o : List Nat} {i : Nat} (h : i < l.length) : turnL l (i :: o) = l[i] :: turnL l o := by
  unfold turnL
  rw [List.filterMap_cons, List.getElem?_eq_getElem h]
theorem turnL_len {l : List JobD} : ∀ {o : List Nat}, (∀ i ∈ o, i < l.length) → (turnL l o).length = o.length
  | [], _ => rfl
  | i :: o, h => by rw [turnL_cons (h i (by simp)), List.length_cons, List.length_cons, turnL_len (fun j hj => h j (by simp [hj]))]
theorem turnL_mem {l : List JobD} {o : List Nat} {x : JobD} (h : x ∈ turnL l o) : ∃ i ∈ o, l[i]? = some x := by
  unfold turnL at h
  exact List.mem_filterMap.1 h
theorem turnL_cs (s : SetD) {l : List JobD} : ∀ {o : List Nat}, (∀ i ∈ o, i < l.length) → csE s (turnL l o) = o.map fun i => (csE s l).getD i 0
  | [], _ => rfl
  | i :: o, h => by
    have hi := h i (by simp)
    rw [turnL_cons hi, List.map_cons, ← turnL_cs s (o := o) (fun j hj => h j (by simp [hj]))]
    unfold csE
    rw [List.map_cons, List.getD, List.getElem?_map, List.getElem?_eq_getElem hi]
    rfl
/-! ### valid jobs by their names -/
theorem jobs_nodup {l : List JobD} (h : jobsOk l = true) : (l.map (·.name)).Nodup := by
  rw [jobsOk, Bool.and_eq_true] at h
  have h2 := allIdx_iff.1 h.2
  rw [nodup_get]
  intro i j hij hj
  rw [List.length_map] at hj
  have hjx : l[j]? = some l[j] := List.getElem?_eq_getElem hj
  have hix : l[i]? = some l[i] := List.getElem?_eq_getElem (by omega)
  have h3 := h2 j _ hjx
  rw [jobAt, Bool.and_eq_true, Bool.not_eq_true', List.any_eq_false] at h3
  intro e
  rw [List.getElem?_map, List.getElem?_map, hjx, hix] at e
  injection e with e
  exact h3.2 l[i] (List.mem_iff_getElem?.2 ⟨i, by rw [List.getElem?_take_of_lt hij]; exact hix⟩) (sameJ_iff.2 e)
theorem jobsOk_of {l : List JobD} (h1 : l.length ≤ 100) (h2 : ∀ x ∈ l, jobFine x = true) (h3 : (l.map (·.name)).Nodup) : jobsOk l = true := by
  rw [jobsOk, decide_eq_true h1, Bool.true_and]
  refine allIdx_yes fun j y hj hy => ?_
  rw [jobAt, h2 y (List.mem_of_getElem? hy), Bool.true_and, Bool.not_eq_true', List.any_eq_false]
  intro x hx e
  obtain ⟨i, hi⟩ := List.getElem?_of_mem hx
  have hij : i < j := by
    have := (List.getElem?_eq_some_iff.1 hi).1
    rw [List.length_take] at this
    omega
  rw [List.getElem?_take_of_lt hij] at hi
  refine nodup_get.1 h3 i j hij (by rw [List.length_map]; exact hj) ?_
  rw [List.getElem?_map, List.getElem?_map, hi, hy]
  exact congrArg some (sameJ_iff.1 e)
theorem jobs_fine {l : List JobD} (h : jobsOk l = true) : ∀ x ∈ l, jobFine x = true := fun x hx => by
  obtain ⟨h1, h2, h3⟩ := (job_nums h).2 x hx
  simp [jobFine, betweenB, h1, h2, h3]
theorem turnL_nodup {l : List JobD} (h : (l.map (·.name)).Nodup) : ∀ {o : List Nat}, o.Nodup → (∀ i ∈ o, i < l.length) → ((turnL l o).map (·.name)).Nodup
  | [], _, _ => List.nodup_nil
  | i :: o, hn, hi => by
    rw [List.nodup_cons] at hn
    have hil := hi i (by simp)
    rw [turnL_cons hil, List.map_cons, List.nodup_cons]
    refine ⟨fun hm => ?_, turnL_nodup h hn.2 (fun j hj => hi j (by simp [hj]))⟩
    obtain ⟨y, hy, e⟩ := List.mem_map.1 hm
    obtain ⟨j, hj, hjy⟩ := turnL_mem hy
    have hjl := hi j (by simp [hj])
    have hne : i ≠ j := fun e => hn.1 (e ▸ hj)
    have e2 : (l.map (·.name))[i]? = (l.map (·.name))[j]? := by
      rw [List.getElem?_map, List.getElem?_map, hjy, List.getElem?_eq_getElem hil]
      exact congrArg some e.symm
    rcases Nat.lt_or_ge i j with hlt | hge
    · exact nodup_get.1 h i j hlt (by rw [List.length_map]; exact hjl) e2
    · exact nodup_get.1 h j i (by omega) (by rw [List.length_map]; exact hil) e2.symm
theorem turnL_ok {l : List JobD} {o : List Nat} (h : jobsOk l = true) (hn : o.Nodup) (hi : ∀ i ∈ o, i < l.length) (hl : o.length = l.length) : jobsOk (turnL l o) = true :=
  jobsOk_of (by rw [turnL_len hi, hl]; exact (job_nums h).1) (fun x hx => by
    obtain ⟨i, -, hx2⟩ := turnL_mem hx
    exact jobs_fine h x (List.mem_of_getElem? hx2)) (turnL_nodup (jobs_nodup h) hn hi)
/-! ### the opposite jobs -/
def negJ (x : JobD) : JobD := ⟨x.name, x.pipe, -x.weight⟩
def preB : List UInt8 := [119, 95, 98, 97, 99, 107, 95]
def bname (k : Nat) : ByteArray := ⟨(preB ++ List.replicate (k + 1) 120).toArray⟩
def renL : Nat → List JobD → List JobD
  | _, [] => []
  | k, x :: l => ⟨bname k, x.pipe, x.weight⟩ :: renL (k + 1) l
def backL (l : List JobD) : List JobD := renL 0 (l.map negJ).reverse
theorem renL_len : ∀ (l : List JobD) (k : Nat), (renL k l).length = l.length
  | [], _ => rfl
  | x :: l, k => by rw [renL, List.length_cons, List.length_cons, renL_len l]
theorem renL_get : ∀ (l : List JobD) (k j : Nat), (renL k l)[j]? = l[j]?.map fun x => ⟨bname (k + j), x.pipe, x.weight⟩
  | [], _, _ => by simp [renL]
  | x :: l, k, 0 => by simp [renL]
  | x :: l, k, j + 1 => by
    rw [renL, List.getElem?_cons_succ, List.getElem?_cons_succ, renL_get l (k + 1) j, show k + 1 + j = k + (j + 1) by omega]
theorem renL_take {l : List JobD} {k j : Nat} {x : JobD} (h : l[j]? = some x) : (renL k l).take (j + 1) = (renL k l).take j ++ [⟨bname (k + j), x.pipe, x.weight⟩] := by
  rw [List.take_add_one, renL_get, h]; rfl
theorem renL_cs (s : SetD) : ∀ (l : List JobD) (k : Nat), csE s (renL k l) = csE s l
  | [], _ => rfl
  | x :: l, k => by
    have ih := renL_cs s l (k + 1)
    unfold csE at ih ⊢
    rw [renL, List.map_cons, List.map_cons, ih]
    rfl
theorem negs_cs (s : SetD) (l : List JobD) : csE s (l.map negJ) = (csE s l).map (-·) := by
  unfold csE
  rw [List.map_map, List.map_map]
  exact List.map_congr_left fun x _ => chg_neg s x x.name
theorem backL_cs (s : SetD) (l : List JobD) : csE s (backL l) = ((csE s l).map (-·)).reverse := by
  unfold backL
  rw [renL_cs, ← negs_cs]
  unfold csE
  rw [List.map_reverse]
theorem app_cs (s : SetD) (a b : List JobD) : csE s (a ++ b) = csE s a ++ csE s b := List.map_append
theorem bname_pre (k : Nat) : Lib.hasPrefix (bname k).data.toList preB = true := by
  unfold Lib.hasPrefix bname
  simp
theorem bname_inj {i j : Nat} (h : bname i = bname j) : i = j := by
  have := congrArg (fun s : ByteArray => s.data.size) h
  unfold bname at this
  simp at this
  exact this
theorem bname_all : ((List.range 10).all fun k => isName (bname k)) = true := by kernel_rfl
theorem bname_name {k : Nat} (h : k < 10) : isName (bname k) = true := List.all_eq_true.1 bname_all k (List.mem_range.2 h)
theorem back_ok {l : List JobD} (h : jobsOk l = true) (hl : l.length ≤ 10) (hp : ∀ x ∈ l, Lib.hasPrefix x.name.data.toList preB = false) : jobsOk (l ++ backL l) = true := by
  have hlen : (backL l).length = l.length := by unfold backL; rw [renL_len, List.length_reverse, List.length_map]
  have hget : ∀ y ∈ backL l, ∃ j, j < l.length ∧ y.name = bname j ∧ ∃ x ∈ l, y.pipe = x.pipe ∧ y.weight = -x.weight := fun y hy => by
    obtain ⟨j, hj⟩ := List.getElem?_of_mem hy
    have hjl := (List.getElem?_eq_some_iff.1 hj).1
    rw [hlen] at hjl
    unfold backL at hj
    rw [renL_get] at hj
    obtain ⟨z, hz, rfl⟩ := Option.map_eq_some_iff.1 hj
    have hm := List.mem_of_getElem? hz
    rw [List.mem_reverse] at hm
    obtain ⟨x, hx, rfl⟩ := List.mem_map.1 hm
    exact ⟨j, hjl, by simp, x, hx, rfl, rfl⟩
  refine jobsOk_of (by rw [List.length_append, hlen]; omega) (fun y hy => ?_) ?_
  · rcases List.mem_append.1 hy with hy | hy
    · exact jobs_fine h y hy
    · obtain ⟨j, hj, hn, x, hx, -, hw⟩ := hget y hy
      obtain ⟨-, h2, h3⟩ := (job_nums h).2 x hx
      unfold jobFine betweenB
      rw [hn, bname_name (by omega), hw, decide_eq_true (by omega), decide_eq_true (by omega)]
      rfl
  · rw [List.map_append, List.nodup_append]
    refine ⟨jobs_nodup h, ?_, fun a ha b hb e => ?_⟩
    · rw [nodup_get]
      intro i j hij hj e
      rw [List.length_map] at hj
      have e1 : ∀ q, q < (backL l).length → ((backL l).map (·.name))[q]? = some (bname q) := fun q hq => by
        unfold backL at hq ⊢
        rw [renL_len] at hq
        rw [List.getElem?_map, renL_get, List.getElem?_eq_getElem hq]
        simp
      rw [e1 i (by omega), e1 j hj] at e
      injection e with e
      have := bname_inj e
      omega
    · obtain ⟨x, hx, rfl⟩ := List.mem_map.1 ha
      obtain ⟨y, hy, rfl⟩ := List.mem_map.1 hb
      obtain ⟨j, -, hn, -⟩ := hget y hy
      have := hp x hx
      rw [e, hn, bname_pre] at this
      cases this
end Go.Proofs.YtcdkhlndohokcaaGreatDoor
namespace Go.Proofs.YtcdkhlndohokcaaGreatDoor
open Go.RowKit

/-! ### flat rows -/
theorem rflat_split {α : Type} {cells : α → List Value} {size : Nat} (hs : ∀ x, (cells x).length = size) : ∀ (l : List α) (q : Nat) (u : Value), (l.flatMap cells)[q]? = some u → ∃ i j x, q = i * size + j ∧ l[i]? = some x ∧ (cells x)[j]? = some u
  | [], q, u, h => by simp at h
  | y :: l, q, u, h => by
    rw [List.flatMap_cons] at h
    by_cases hq : q < size
    · rw [List.getElem?_append_left (by rw [hs]; exact hq)] at h
      exact ⟨0, q, y, by simp, rfl, h⟩
    · rw [List.getElem?_append_right (by rw [hs]; omega), hs] at h
      obtain ⟨i, j, x, e, h1, h2⟩ := rflat_split hs l (q - size) u h
      exact ⟨i + 1, j, x, by rw [Nat.succ_mul]; omega, by simpa using h1, h2⟩
theorem rflat_len {α : Type} {cells : α → List Value} {size : Nat} (hs : ∀ x, (cells x).length = size) : ∀ l : List α, (l.flatMap cells).length = l.length * size
  | [] => by simp
  | y :: l => by rw [List.flatMap_cons, List.length_append, hs, rflat_len hs l, List.length_cons, Nat.succ_mul]; omega
theorem rflat_at {α : Type} {cells : α → List Value} {size : Nat} (hs : ∀ x, (cells x).length = size) : ∀ (l : List α) (i : Nat) (x : α) (j : Nat) (u : Value), l[i]? = some x → (cells x)[j]? = some u → (l.flatMap cells)[i * size + j]? = some u
  | [], i, x, j, u, h, _ => by simp at h
  | y :: l, 0, x, j, u, h, hu => by
    simp at h
    subst h
    have hj : j < (cells y).length := (List.getElem?_eq_some_iff.1 hu).1
    rw [List.flatMap_cons, Nat.zero_mul, Nat.zero_add, List.getElem?_append_left hj]
    exact hu
  | y :: l, i + 1, x, j, u, h, hu => by
    have h' : l[i]? = some x := by simpa using h
    rw [List.flatMap_cons, List.getElem?_append_right (by rw [hs y, Nat.succ_mul]; omega), hs y, show (i + 1) * size + j - size = i * size + j by rw [Nat.succ_mul]; omega]
    exact rflat_at hs l i x j u h' hu
/-- the elements of a slice, as news for an append -/
theorem rslAt_news {α : Type} {w : World} {size : Nat} {cells : α → List Value} (hs : ∀ x, (cells x).length = size) {b off : Nat} {l : List α} (hc : ∀ i x, l[i]? = some x → ∀ j u, (cells x)[j]? = some u → w.cell? ⟨b, off + (i * size + j), none⟩ = some u) : ∀ q u, (l.flatMap cells)[q]? = some u → w.cell? ((⟨b, off, none⟩ : Addr).add q) = some u := fun q u hq => by
  obtain ⟨i, j, x, e, h1, h2⟩ := rflat_split hs l q u hq
  have h3 := hc i x h1 j u h2
  have e2 : (⟨b, off, none⟩ : Addr).add q = ⟨b, off + (i * size + j), none⟩ := by
    unfold Addr.add
    by_cases hz : q = 0
    · rw [if_pos hz, ← e, hz]; rfl
    · rw [if_neg hz, ← e]
  rw [e2]; exact h3
/-- an own row of elements that is being made -/
structure OwnSt {α : Type} (t : TypeId) (size : Nat) (cells : α → List Value) (W : World) (v : Value) (l : List α) (x : World) : Prop where
  own : x.ownsRow W.heap.size t size v l.length (l.flatMap cells)
  bel : Below W.heap.size W x
section
variable {α : Type} {t : TypeId} {size : Nat} {cells : α → List Value} {W x y z u : World} {v v' : Value} {l ls : List α}
theorem OwnSt.start (t : TypeId) (size : Nat) (cells : α → List Value) (hb : Below W.heap.size W x) : OwnSt t size cells W (.slice none 0 0) [] x := ⟨own_nil _ _ _ _, hb⟩
theorem OwnSt.more (h : OwnSt t size cells W v l x) (hb : Below x.heap.size x y) : OwnSt t size cells W v l y := ⟨own_below h.own hb, h.bel.trans (hb.mono h.bel.size)⟩
theorem OwnSt.append (h : OwnSt t size cells W v l z) (hu : Below z.heap.size z u) (hown : y.ownsRow W.heap.size t size v' (l.length + ls.length) (l.flatMap cells ++ ls.flatMap cells)) (hgr : u.grownBy y v.ownBlock) : OwnSt t size cells W v' (l ++ ls) y := by
  refine ⟨by rw [List.length_append, List.flatMap_append]; exact hown, h.bel.trans ?_⟩
  exact Below.grown (hu.mono h.bel.size) hgr (Nat.le_trans h.bel.size hu.size) (own_owner h.own)
theorem OwnSt.slAt (hs : ∀ x, (cells x).length = size) (h : OwnSt t size cells W v l x) : ∃ A cap, v = .slice A l.length cap ∧ SlAt x x.heap.size size cells ⟨A, cap, l⟩ := by
  rcases h.own.2 with ⟨hv, h0⟩ | ⟨g, cap, cur, hv, hg, hh, hnc, hcm, hcs, htake⟩
  · have hl : l = [] := List.eq_nil_of_length_eq_zero h0
    subst hl
    exact ⟨none, 0, hv, by simp, by simp, fun hn => absurd hn (by simp)⟩
  · refine ⟨_, cap, hv, hnc, hcm, fun _ => ⟨g, 0, rfl, (Array.getElem?_eq_some_iff.1 hh).1, fun i x hx j u hu => ?_⟩⟩
    have h1 := rflat_at hs l i x j u hx hu
    rw [← htake] at h1
    have hi := (List.getElem?_eq_some_iff.1 hx).1
    have hj := (List.getElem?_eq_some_iff.1 hu).1
    rw [hs] at hj
    have hlt : i * size + j < l.length * size := by
      have : (i + 1) * size ≤ l.length * size := Nat.mul_le_mul_right size hi
      rw [Nat.succ_mul] at this; omega
    rw [List.getElem?_take_of_lt hlt] at h1
    rw [Lib.cell_of_heap hh, Nat.zero_add]
    simpa using h1
end
theorem OwnSt.slAt2 {α : Type} {t : TypeId} {size : Nat} {cells : α → List Value} {W x : World} {v : Value} {l : List α} (hs : ∀ x, (cells x).length = size) (h : OwnSt t size cells W v l x) : ∃ A cap, v = .slice A l.length cap ∧ (A = none → cap = 0) ∧ SlAt x x.heap.size size cells ⟨A, cap, l⟩ := by
  obtain ⟨A, cap, e, hsl⟩ := h.slAt hs
  refine ⟨A, cap, e, fun hn => ?_, hsl⟩
  subst hn
  rcases h.own.2 with ⟨hv, h0⟩ | ⟨g, cap2, cur, hv, _⟩
  · rw [hv] at e; injection e with e1 e2 e3; exact e3.symm
  · rw [hv] at e; injection e with e1; cases e1
theorem OwnSt.from {α : Type} {t : TypeId} {size : Nat} {cells : α → List Value} {w u x : World} {v : Value} {l : List α} (hu : Below w.heap.size w u) (h : OwnSt t size cells u v l x) : OwnSt t size cells w v l x := ⟨Joins.ownsRow_le h.own hu.size, hu.trans (h.bel.mono hu.size)⟩
end Go.Proofs.YtcdkhlndohokcaaGreatDoor
namespace Go.Proofs.YtcdkhlndohokcaaGreatDoor
open Go Go.RowKit Go.Maps Go.Deep

theorem infoJob : (Tryz.prog.info? 37).map (fun i => (i.zero, i.size, i.bytes)) = some (some (.agg #[.string ⟨#[]⟩, .bool false, .int .i64 0]), 3, 32) := by kernel_rfl
theorem infoJob_parts : ∃ i, Tryz.prog.info? 37 = some i ∧ i.zero = some (.agg #[.string ⟨#[]⟩, .bool false, .int .i64 0]) ∧ i.size = 3 ∧ i.bytes = 32 := by
  have h := infoJob
  cases hi : Tryz.prog.info? 37 with
  | none => rw [hi] at h; cases h
  | some i =>
    rw [hi] at h
    simp only [Option.map_some, Option.some.injEq, Prod.mk.injEq] at h
    exact ⟨i, rfl, h.1, h.2.1, h.2.2⟩
theorem jobCells_len (x : JobD) : x.cells.length = 3 := rfl
theorem job_one (x : JobD) : ∀ u ∈ [Value.string x.name, .bool x.pipe, .int .i64 x.weight], u.oneCell' = true := fun u hu => by
  simp at hu
  rcases hu with rfl | rfl | rfl <;> rfl
/-- the own row of jobs, and the row of what has been seen -/
structure VerSt (Y : World) (tb n : Nat) (f : Nat → Bool) (L : List JobD) (v : Value) (x : World) : Prop where
  own : OwnSt 37 3 JobD.cells Y v L x
  row : x.rowIs tb 4 n (fun j => .bool (f j))
  base : Y.heap.size ≤ tb
  ne : v.ownBlock ≠ some tb
theorem VerSt.set {Y x : World} {tb n : Nat} {f : Nat → Bool} {L : List JobD} {v : Value} (h : VerSt Y tb n f L v x) (k : Nat) (b : Bool) : VerSt Y tb n (fun j => if j = k then b else f j) L v (x.setCell ⟨tb, k, none⟩ (.bool b)) :=
  ⟨⟨ownsRow_setCell_other h.own.own h.ne _, h.own.bel.setCell h.base _⟩, (h.row.set k (.bool b)).congr fun j _ => by by_cases e : j = k <;> simp [e], h.base, h.ne⟩
theorem VerSt.to {Y x y : World} {tb n : Nat} {f : Nat → Bool} {L : List JobD} {v : Value} (h : VerSt Y tb n f L v x) (b : Below x.heap.size x y) : VerSt Y tb n f L v y :=
  ⟨h.own.more b, h.row.of_block (b.block _ h.row.lt), h.base, h.ne⟩
theorem VerSt.push {Y z y : World} {tb n g cap : Nat} {f : Nat → Bool} {L : List JobD} {v : Value} {x : JobD} {o : Obj} (h : VerSt Y tb n f L v z) (hown : y.ownsRow Y.heap.size 37 3 (.slice (some ⟨g, 0, none⟩) (L.length + 1) cap) (L.length + 1) (L.flatMap JobD.cells ++ [.string x.name, .bool x.pipe, .int .i64 x.weight]))
    (hgr : (z.alloc o).grownBy y v.ownBlock) (hg : v.ownBlock = some g ∨ g = z.heap.size + 1) : VerSt Y tb n f (L ++ [x]) (.slice (some ⟨g, 0, none⟩) (L.length + 1) cap) y := by
  have hb : y.heap[tb]? = z.heap[tb]? := (hgr.block tb (by have := h.row.lt; simp; omega) (Ne.symm h.ne)).trans (heap_alloc_old _ _ h.row.lt)
  refine ⟨h.own.append (ls := [x]) ((Below.refl _ _).alloc (Nat.le_refl _) o) (by simpa [JobD.cells] using hown) hgr, h.row.of_block hb, h.base, ?_⟩
  rcases hg with e | e
  · have := h.ne
    rw [e] at this
    simpa [Value.ownBlock] using this
  · have := h.row.lt
    simp [Value.ownBlock]
    omega
theorem first_none {s : SetD} {l : List JobD} (hv : setOk s = true) (hj : jobsOk l = true) (hh : ∀ x ∈ pathL (balE s) (csE s l), heldE s x = true) : firstV s l = .tuple #[.int .i64 0, .int .i64 12] := by
  unfold firstV
  have hp : pathE s l = (pathL (balE s) (csE s l), 0) := by unfold pathE; rw [hv, hj]; rfl
  rw [hp]
  simp only [if_true]
  have hi : idx (fun n => !heldE s n) (pathL (balE s) (csE s l)) = -1 := idxFrom_none _ 0 fun x hx => by rw [hh x hx]; rfl
  rw [hi]
  rfl
/-- two rows of the same numbers -/
theorem equalRows {w : World} {b1 o1 c b2 o2 d : Nat} (l : List Int) (hl : l.length ≤ 9223372036854775807) (h1 : ∀ j, j < l.length → w.cell? ⟨b1, o1 + j, none⟩ = some (.int .i64 (l.getD j 0))) (h2 : ∀ j, j < l.length → w.cell? ⟨b2, o2 + j, none⟩ = some (.int .i64 (l.getD j 0))) :
    Calls Tryz.prog 26 #[.slice (some ⟨b1, o1, none⟩) l.length c, .slice (some ⟨b2, o2, none⟩) l.length d] w (Gives w (.bool true)) := by
  refine (Tryz.slices_Equal_int b1 o1 l.length c b2 o2 l.length d l l w (Nat.le_refl _) (Nat.le_refl _) hl hl h1 h2).mono ?_
  rintro e w' ⟨he, q, rfl⟩
  rw [beq_self_eq_true] at he
  exact ⟨he, ⟨rfl, rfl, rfl, Nat.le_refl _, fun _ _ => rfl⟩⟩
theorem sameRows {w : World} {b1 o1 c b2 o2 d : Nat} (l : List Int) (hl : l.length ≤ 9223372036854775807) (h1 : ∀ j, j < l.length → w.cell? ⟨b1, o1 + j, none⟩ = some (.int .i64 (l.getD j 0))) (h2 : ∀ j, j < l.length → w.cell? ⟨b2, o2 + j, none⟩ = some (.int .i64 (l.getD j 0))) :
    Calls Tryz.prog 37 #[.slice (some ⟨b1, o1, none⟩) l.length c, .slice (some ⟨b2, o2, none⟩) l.length d] w (Gives w (.bool true)) := by
  have KE := hide (Gives.first (equalRows (c := c) (d := d) l hl h1 h2))
  clear h1 h2
  go_enter Tryz.func37, Tryz.ntmps37
  go_wp2_with (go_at_call 26; refine KE.out.mono ?_; rintro e w' ⟨rfl, y, rfl⟩)
  go_ret
  exact Gives.mk rfl y.below
theorem okL_turn {l : List JobD} {o : List Nat} (h : ∀ x ∈ l, x.ok) : ∀ x ∈ turnL l o, x.ok := fun x hx => by
  obtain ⟨i, -, hi⟩ := turnL_mem hx
  exact h x (List.mem_of_getElem? hi)
set_option maxRecDepth 100000 in
set_option maxHeartbeats 4000000 in
theorem verify_any (s : SetD) (sok : s.ok) (A : Option Addr) (cap : Nat) (l : List JobD) (hok : ∀ x ∈ l, x.ok) (oA : Option Addr) (oc : Nat) (ol : List Int) (pA : Option Addr) (pc : Nat) (pl : List Int) (o : List Nat) (w : World) (B : Nat) (hB : B ≤ w.heap.size) (sat : SetD.at_ w B s) (hat : SlAt w B 3 JobD.cells ⟨A, cap, l⟩) (oat : SlAt w B 1 intCells ⟨oA, oc, ol⟩) (pat : SlAt w B 1 intCells ⟨pA, pc, pl⟩)
    (hv : setOk s = true) (hj : jobsOk l = true) (hol : ol = o.map fun i : Nat => (i : Int)) (hn : o.Nodup) (hi : ∀ i ∈ o, i < l.length) (hl : o.length = l.length) (hpl : pl = pathL (balE s) (csE s (turnL l o))) (hh : ∀ x ∈ pl, heldE s x = true) :
    Calls Tryz.prog 12 #[.agg #[.string s.name, .int .i64 s.depth, .int .i64 s.low, .int .i64 s.high, .int .i64 s.length, .slice s.lines.A s.lines.l.length s.lines.cap, .int .i64 s.pipe, .int .i64 s.arbor, .int .i64 s.purchase, .int .i64 s.most, .int .i64 s.brake, .slice s.items.A s.items.l.length s.items.cap, .slice s.bricks.A s.bricks.l.length s.bricks.cap], .slice A l.length cap, .slice oA ol.length oc, .slice pA pl.length pc] w (Gives w (.tuple #[.bool true, .int .i64 0])) := by
  obtain ⟨W, hW, hWs, hWb, hWh⟩ := boxed w (.cells #[.string s.name, .int .i64 s.depth, .int .i64 s.low, .int .i64 s.high, .int .i64 s.length, .slice s.lines.A s.lines.l.length s.lines.cap, .int .i64 s.pipe, .int .i64 s.arbor, .int .i64 s.purchase, .int .i64 s.most, .int .i64 s.brake, .slice s.items.A s.items.l.length s.items.cap, .slice s.bricks.A s.bricks.l.length s.bricks.cap] 26)
  have hc := fun y : After W.heap.size W => SetD.boxed hWh (by omega) y
  have hc0 := hc (After.refl _ _)
  simp only [After.refl] at hc0
  have hbd : ∀ y : After W.heap.size W, Below w.heap.size w y.val := fun y => hWb.trans (y.below.mono (by omega))
  have sat2 := sat.to (hWb.mono hB) (show B ≤ W.heap.size by omega)
  have hat2 := hat.to (hWb.mono hB) (show B ≤ W.heap.size by omega)
  have oat2 := oat.to (hWb.mono hB) (show B ≤ W.heap.size by omega)
  have pat2 := pat.to (hWb.mono hB) (show B ≤ W.heap.size by omega)
  have hm1 : l.length ≤ cap := hat.1
  have hm2 : cap ≤ 9223372036854775807 := hat.2.1
  have hm3 : ol.length ≤ oc := oat.1
  have hm4 : oc ≤ 9223372036854775807 := oat.2.1
  have hm5 : pl.length ≤ pc := pat.1
  have hm6 : pc ≤ 9223372036854775807 := pat.2.1
  have KV := hide (Gives.first (battenValid_any s sok W W.heap.size (Nat.le_refl _) sat2))
  have KJ := hide (fun y : After W.heap.size W => Gives.after (x := y) (Nat.le_refl _) (brakeValid_any A cap l hok y.val W.heap.size y.size (hat2.to y.below (Nat.le_refl _))))
  rw [hv] at KV
  rw [hj] at KJ
  have hjT := turnL_ok hj hn hi hl
  have hokT := okL_turn (o := o) hok
  have hlT := turnL_len hi
  obtain ⟨T, hT⟩ : ∃ T, T = turnL l o := ⟨_, rfl⟩
  rw [← hT] at hjT hokT hlT hpl
  have hl100 := (job_nums hj).1
  have hpE : pathE s T = (pl, 0) := by unfold pathE; rw [hv, hjT, hpl]; rfl
  have hfE : firstV s T = .tuple #[.int .i64 0, .int .i64 12] := first_none hv hjT (by rw [← hpl]; exact hh)
  have hpp : 0 < pl.length := by rw [hpl, pathL_len]; omega
  have KP := hide (fun (y : After W.heap.size W) (tA : Option Addr) (tc : Nat) (ht : SlAt y.val y.val.heap.size 3 JobD.cells ⟨tA, tc, T⟩) => hpE ▸ path_any s sok tA tc T hokT y.val y.val.heap.size (Nat.le_refl _) (sat2.to y.below y.size) ht)
  have KF := hide (fun (y : After W.heap.size W) (tA : Option Addr) (tc : Nat) (ht : SlAt y.val y.val.heap.size 3 JobD.cells ⟨tA, tc, T⟩) => hfE ▸ first_any s sok tA tc T hokT y.val y.val.heap.size (Nat.le_refl _) (sat2.to y.below y.size) ht)
  have HPAT := hide (fun y : After W.heap.size W => pat2.to y.below y.size)
  have HT := hide hT
  have HOL := hide hol
  have HN := hide hn
  have HI := hide hi
  have hoo : ol.length = o.length := by rw [hol, List.length_map]
  have hol2 : ol.length = l.length := hoo.trans hl
  have HL := hide hol2
  have HOO := hide hoo
  have HLT := hide (hlT.trans hl)
  have HAT := hide hat2
  have OAT := hide oat2
  obtain ⟨i0, hi0, hz0, hs0, hbb0⟩ := infoJob_parts
  have HI0 := hide (And.intro hi0 (And.intro hz0 (And.intro hs0 hbb0)))
  obtain ⟨n, hnl⟩ : ∃ n, n = l.length := ⟨_, rfl⟩
  have HNL := hide hnl
  rw [← hnl] at hm1 hl100 HL HLT KJ
  rw [HL.out] at hm3
  rw [← hnl, HL.out]
  have HMKB := hide (fun v : World => run_make_row' (P := Tryz.prog) 69 4 (.bool false) 1 Tryz.underlying69 infoBool rfl .i64 .i64 n (by omega) (by omega) v)
  have HBD := hide hbd
  have HW := hide hW
  clear hW hWh hWb hbd sat sat2 hat hat2 oat oat2 pat pat2 hok sok hWs hv hj hjT hokT hlT hT hol hn hi hl hpl hh hpE hfE hoo hol2 hi0 hz0 hs0 hbb0 hnl
  go_enter Tryz.func12, Tryz.ntmps12
  go_upto_region 1 with fail
  rw [← HW.out]
  go_upto_region 5 with (first
    | (go_at_call 36; refine KV.out.mono ?_; rintro e w' ⟨rfl, y, rfl⟩)
    | (go_at_call 34; refine (KJ.out y).mono ?_; rintro e w' ⟨rfl, y2, rfl⟩))
  have hmk := HMKB.out y2.val
  go_upto_region 7 with fail
  have HS0 := hide (show VerSt y2.val y2.val.heap.size n (fun _ => false) [] (.slice none 0 0) (y2.val.alloc (.cells (madeCells #[.bool false] n) 4)) from
    ⟨OwnSt.start _ _ _ ((Below.refl _ _).alloc (Nat.le_refl _) _), World.rowIs_made _ _ _ _, Nat.le_refl _, by simp [Value.ownBlock]⟩)
  obtain ⟨Y, hY⟩ : ∃ Y, Y = y2.val := ⟨_, rfl⟩
  have HWY := hide (show Below W.heap.size W Y by rw [hY]; exact y2.below)
  have hYs := HWY.out.size
  rw [← hY] at HS0 ⊢
  clear hmk hY
  obtain ⟨tb, htb⟩ : ∃ t, t = Y.heap.size := ⟨_, rfl⟩
  have HTB := hide htb
  rw [← htb] at HS0 ⊢
  clear htb
  go_wp2_with fail
  go_loopw [11, 34] (fun v11 v wr => ∃ k : Nat, v = .int .i64 k ∧ k ≤ n ∧ Hid (VerSt Y tb n (fun j => decide (j ∈ o.take k)) (turnL l (o.take k)) v11 wr)) (fun _ v _ => n - (intOf v).toNat)
  case atStart => exact ⟨0, rfl, Nat.zero_le _, hide (by simpa [turnL] using HS0.out)⟩
  case round =>
    obtain ⟨k, rfl, hk, hst⟩ := hrel
    by_cases hlt : k < n
    · obtain ⟨b, off, hA, hb', hcell⟩ := OAT.out.2.2 (show 0 < ol.length by have := HL.out; omega)
      simp only at hA
      subst hA
      obtain ⟨i, hio⟩ : ∃ i, o[k]? = some i := ⟨o[k]'(by have := HL.out; have := HOO.out; omega), List.getElem?_eq_getElem _⟩
      have hkol : ol[k]? = some (i : Int) := by rw [HOL.out, List.getElem?_map, hio]; rfl
      have hwW : Below W.heap.size W wr := HWY.out.trans (hst.out.own.bel.mono hYs)
      have hel : wr.cell? ⟨b, off + k, none⟩ = some (.int .i64 (i : Int)) := by
        have h := hcell k (i : Int) hkol 0 _ rfl
        rw [Nat.mul_one, Nat.add_zero] at h
        exact (hwW.cell hb').trans h
      have hin : i < n := by rw [HNL.out]; exact HI.out i (List.mem_of_getElem? hio)
      obtain ⟨jb, joff, hjA, hjb, hjcell⟩ := HAT.out.2.2 (show 0 < l.length by have := HNL.out; omega)
      simp only at hjA
      subst hjA
      obtain ⟨x, hx⟩ : ∃ x, l[i]? = some x := ⟨l[i]'(by have := HNL.out; omega), List.getElem?_eq_getElem _⟩
      have hje := JobD.elem hx hjb hjcell ⟨wr, hwW⟩
      simp only at hje
      have hns : decide (i ∈ o.take k) = false := by
        refine decide_eq_false fun hm => ?_
        obtain ⟨q, hq⟩ := List.getElem?_of_mem hm
        have hqk : q < k := by
          have := (List.getElem?_eq_some_iff.1 hq).1
          rw [List.length_take] at this
          omega
        rw [List.getElem?_take_of_lt hqk] at hq
        exact nodup_get.1 HN.out q k hqk (List.getElem?_eq_some_iff.1 hio).1 (hq.trans hio.symm)
      have hsee := hst.out.row.cell hin
      simp only [hns] at hsee
      have hfz := hst.out.row.frozen i
      have htk := turnL_take hio hx
      have hset : VerSt Y tb n (fun j => decide (j ∈ o.take (k + 1))) (turnL l (o.take k)) u11 (wr.setCell ⟨tb, i, none⟩ (.bool true)) := by
        have h := hst.out.set i true
        refine ⟨h.own, h.row.congr fun j _ => ?_, h.base, h.ne⟩
        rw [List.take_add_one, hio]
        by_cases e : j = i
        · subst e; simp
        · simp [e]
      obtain ⟨U, hU⟩ : ∃ U, U = wr.setCell ⟨tb, i, none⟩ (.bool true) := ⟨_, rfl⟩
      rw [← hU] at hset
      have hWU : Below W.heap.size W U := HWY.out.trans (hset.own.bel.mono hYs)
      have hjU := JobD.elem hx hjb hjcell ⟨U, hWU⟩
      simp only at hjU
      have hLen : (turnL l (o.take k)).length = k := by rw [turnL_len (fun j hj => HI.out j (List.mem_of_mem_take hj)), List.length_take]; have := HL.out; have := HOO.out; omega
      obtain ⟨Lk, hLk⟩ : ∃ L, L = turnL l (o.take k) := ⟨_, rfl⟩
      rw [← hLk] at hset htk hLen
      have hown := (hset.own.more ((Below.refl _ _).alloc (Nat.le_refl _) (.cells #[.string x.name, .bool x.pipe, .int .i64 x.weight] 37 (0, 0)))).own
      rw [hLen] at hown
      have hYU := hset.own.bel.size
      have HOWN := hide hown
      have HSET := hide hset
      have HU := hide hU
      have HTK := hide htk
      have HLN := hide hLen
      have hi0 : (0 : Int) ≤ (i : Int) := by omega
      have hi1 : (i : Int) < (n : Int) := by omega
      have hi2 : ¬ (i : Int) < 0 := by omega
      have hi3 : ¬ (n : Int) ≤ (i : Int) := by omega
      have hi4 : decide ((n : Int) ≤ (i : Int)) = false := decide_eq_false hi3
      have hi5 : decide (n ≤ i) = false := decide_eq_false (by omega)
      clear hcell hjcell hio hkol hx hst htk hset hown hU hns hLen hLk hWU hwW hje
      go_upto_region 13 with fail
      rw [← HU.out]
      clear hel hsee hfz
      go_wp2_with (at_builtin; refine Hid.out ?_)
      refine Lib.hid ?_
      refine wpList_append_lies _ rfl _ _ 27 rfl Y.heap.size 37 i0 _ 3 32 Tryz.underlying27 HI0.out.1 HI0.out.2.1 HI0.out.2.2.1 HI0.out.2.2.2 rfl (by decide) _ k _ rfl HOWN.out ⟨U.heap.size, 0, none⟩ 1 1 [.string x.name, .bool x.pipe, .int .i64 x.weight] rfl rfl (World.news_of_block (heap_alloc_new U _)) (job_one x) (by omega) (by unfold maxLen; omega) (by omega) (by simp; omega) (U.heap.size + 1) (by simp) ?_
      intro g4 cap4 w4 hown4 hgr4 hg4 _
      have hs4 := HSET.out.push (x := x) (g := g4) (cap := cap4) (by rw [HLN.out]; exact hown4) hgr4 hg4
      rw [HLN.out, ← HTK.out] at hs4
      have HS4 := hide hs4
      clear hs4 hown4 hgr4 hg4
      go_wp2_with fail
      exact ⟨⟨k + 1, by go_num, by omega, HS4⟩, by simp [intOf]; omega⟩
    · have hst2 : VerSt Y tb n (fun j => decide (j ∈ o.take k)) T u11 wr := by
        have h := hst.out
        have e : turnL l (o.take k) = T := by rw [HT.out, List.take_of_length_le (by have := HL.out; have := HOO.out; omega)]
        rwa [e] at h
      have hwW : Below W.heap.size W wr := HWY.out.trans (hst2.own.bel.mono hYs)
      obtain ⟨tA, tc, rfl, htat⟩ := hst2.own.slAt jobCells_len
      have KP2 := hide (KP.out ⟨wr, hwW⟩ tA tc htat)
      simp only at KP2
      rw [HLT.out] at KP2 ⊢
      have hcw := hc ⟨wr, hwW⟩
      simp only at hcw
      have HTA := hide htat
      have HWW := hide hwW
      clear hst hst2 htat hwW KP hc0
      go_upto_region 18 with (go_at_call 11; refine KP2.out.mono ?_; rintro e w2 ⟨hb2, ⟨qA, qc, ql⟩, rfl, hqat, hql⟩; simp only at hqat hql ⊢)
      subst hql
      have hW2 : Below W.heap.size W w2 := HWW.out.trans (hb2.mono HWW.out.size)
      have KF2 := hide (Gives.first (KF.out ⟨w2, hW2⟩ tA tc (HTA.out.to hb2 hb2.size)))
      simp only at KF2
      rw [HLT.out] at KF2
      have hcw2 := hc ⟨w2, hW2⟩
      simp only at hcw2
      have hq1 : ql.length ≤ qc := hqat.1
      have hq2 : qc ≤ 9223372036854775807 := hqat.2.1
      obtain ⟨qb, qo, hqA, -, -⟩ := hqat.2.2 hpp
      simp only at hqA
      subst hqA
      have hp2 := HPAT.out ⟨w2, hW2⟩
      simp only at hp2
      obtain ⟨pb, po, hpA, -, -⟩ := hp2.2.2 hpp
      simp only at hpA
      subst hpA
      have HQ := hide (fun y : After w2.heap.size w2 => row_cells (hqat.to y.below y.size) hpp)
      have HPP := hide (show ∀ y : After w2.heap.size w2, ∀ j, j < ql.length → y.val.cell? ⟨pb, po + j, none⟩ = some (.int .i64 (ql.getD j 0)) from fun y => row_cells (HPAT.out ⟨y.val, hW2.trans (y.below.mono hW2.size)⟩) hpp)
      have HW2 := hide hW2
      clear hqat hp2 hW2 hb2 hcw
      go_upto_region 19 with (go_at_call 13; refine KF2.out.mono ?_; rintro e w' ⟨rfl, z, rfl⟩)
      have KE := hide (Gives.first (sameRows (c := qc) (d := pc) ql (by omega) (HQ.out z) (HPP.out z)))
      have HE := hide (fun u : After z.val.heap.size z.val => HBD.out ⟨u.val, HW2.out.trans (z.below.trans (u.below.mono z.size) |>.mono HW2.out.size)⟩)
      go_wp2_with (go_at_call 37; refine KE.out.mono ?_; rintro e w' ⟨rfl, u, rfl⟩)
      go_ret2
      exact Gives.mk rfl (HE.out u)
end Go.Proofs.YtcdkhlndohokcaaGreatDoor
