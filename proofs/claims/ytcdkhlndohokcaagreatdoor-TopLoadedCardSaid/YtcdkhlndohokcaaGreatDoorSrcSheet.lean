/- Cue sheets as they lie in memory; the functions that look through their pairs; short numbers. -/
import Derived.Test.YtcdkhlndohokcaaGreatDoorSrcMem
import Derived.Test.YtcdkhlndohokcaaGreatDoorNames
import Derived.Test.YtcdkhlndohokcaaGreatDoorIndex
namespace Go.Proofs.YtcdkhlndohokcaaGreatDoor
open Go.RowKit

structure SheetD where
  cues : Sl CueD
  apart : Sl (ByteArray × ByteArray)
def SheetD.pl (s : SheetD) : SheetP := ⟨s.cues.l.map CueD.pl, s.apart.l⟩
def HouseD.pl (h : HouseD) : HouseP := ⟨h.name, h.height, h.sets.l.map SetD.pl, h.roofs.l⟩
structure MoveD.ok (m : MoveD) : Prop where
  set : m.set.size ≤ maxLen
  til : I64 m.to
  speed : I64 m.speed
  rise : I64 m.rise
  fall : I64 m.fall
structure CueD.ok (q : CueD) : Prop where
  name : q.name.size ≤ maxLen
  after : q.after.size ≤ maxLen
  link : I64 q.link
  delay : I64 q.delay
  moves : ∀ m ∈ q.moves.l, m.ok
  crew : I64 q.crew
  power : I64 q.power
structure SheetD.ok (s : SheetD) : Prop where
  cues : ∀ q ∈ s.cues.l, q.ok
  apart : ∀ p ∈ s.apart.l, p.1.size ≤ maxLen ∧ p.2.size ≤ maxLen
structure CueD.at_ (w : World) (B : Nat) (q : CueD) : Prop where
  moves : SlAt w B 5 MoveD.cells q.moves
structure SheetD.at_ (w : World) (B : Nat) (s : SheetD) : Prop where
  cues : SlAt w B 7 CueD.cells s.cues
  each : ∀ q ∈ s.cues.l, CueD.at_ w B q
  apart : SlAt w B 2 pairCells s.apart
section
variable {w w' : World} {B B' : Nat}
theorem CueD.at_.to {q : CueD} (h : CueD.at_ w B q) (hb : Below B w w') (hB : B ≤ B') : CueD.at_ w' B' q := ⟨h.moves.to hb hB⟩
theorem SheetD.at_.to {s : SheetD} (h : SheetD.at_ w B s) (hb : Below B w w') (hB : B ≤ B') : SheetD.at_ w' B' s := ⟨h.cues.to hb hB, fun q hq => (h.each q hq).to hb hB, h.apart.to hb hB⟩
end
section
variable {W : World} {B b off : Nat} {t : TypeId}
theorem SheetD.boxed {s : SheetD} (hW : W.heap[b]? = some (.cells #[.slice s.cues.A s.cues.l.length s.cues.cap, .slice s.apart.A s.apart.l.length s.apart.cap] t (0, 0))) (hb : b < B) (x : After B W) : x.val.cell? ⟨b, 0, none⟩ = some (.slice s.cues.A s.cues.l.length s.cues.cap) ∧ x.val.cell? ⟨b, 1, none⟩ = some (.slice s.apart.A s.apart.l.length s.apart.cap) := ⟨x.cells hW hb 0 _ rfl, x.cells hW hb 1 _ rfl⟩
theorem CueD.boxed {q : CueD} (hW : W.heap[b]? = some (.cells #[.string q.name, .string q.after, .int .i64 q.link, .int .i64 q.delay, .slice q.moves.A q.moves.l.length q.moves.cap, .int .i64 q.crew, .int .i64 q.power] t (0, 0))) (hb : b < B) (x : After B W) : x.val.cell? ⟨b, 0, none⟩ = some (.string q.name) ∧ x.val.cell? ⟨b, 1, none⟩ = some (.string q.after) ∧ x.val.cell? ⟨b, 2, none⟩ = some (.int .i64 q.link) ∧ x.val.cell? ⟨b, 3, none⟩ = some (.int .i64 q.delay) ∧ x.val.cell? ⟨b, 4, none⟩ = some (.slice q.moves.A q.moves.l.length q.moves.cap) ∧ x.val.cell? ⟨b, 5, none⟩ = some (.int .i64 q.crew) ∧ x.val.cell? ⟨b, 6, none⟩ = some (.int .i64 q.power) := ⟨x.cells hW hb 0 _ rfl, x.cells hW hb 1 _ rfl, x.cells hW hb 2 _ rfl, x.cells hW hb 3 _ rfl, x.cells hW hb 4 _ rfl, x.cells hW hb 5 _ rfl, x.cells hW hb 6 _ rfl⟩
theorem MoveD.boxed {m : MoveD} (hW : W.heap[b]? = some (.cells #[.string m.set, .int .i64 m.to, .int .i64 m.speed, .int .i64 m.rise, .int .i64 m.fall] t (0, 0))) (hb : b < B) (x : After B W) : x.val.cell? ⟨b, 0, none⟩ = some (.string m.set) ∧ x.val.cell? ⟨b, 1, none⟩ = some (.int .i64 m.to) ∧ x.val.cell? ⟨b, 2, none⟩ = some (.int .i64 m.speed) ∧ x.val.cell? ⟨b, 3, none⟩ = some (.int .i64 m.rise) ∧ x.val.cell? ⟨b, 4, none⟩ = some (.int .i64 m.fall) := ⟨x.cells hW hb 0 _ rfl, x.cells hW hb 1 _ rfl, x.cells hW hb 2 _ rfl, x.cells hW hb 3 _ rfl, x.cells hW hb 4 _ rfl⟩
theorem CueD.elem {l : List CueD} {k : Nat} {s : CueD} (hs : l[k]? = some s) (hb : b < B) (hc : ∀ i x, l[i]? = some x → ∀ j u, (x.cells)[j]? = some u → W.cell? ⟨b, off + (i * 7 + j), none⟩ = some u) (x : After B W) :
    x.val.cell? ⟨b, off + k * 7, none⟩ = some (.string s.name) ∧ x.val.cell? ⟨b, off + k * 7 + 1, none⟩ = some (.string s.after) ∧ x.val.cell? ⟨b, off + k * 7 + 2, none⟩ = some (.int .i64 s.link) ∧ x.val.cell? ⟨b, off + k * 7 + 3, none⟩ = some (.int .i64 s.delay) ∧ x.val.cell? ⟨b, off + k * 7 + 4, none⟩ = some (.slice s.moves.A s.moves.l.length s.moves.cap) ∧ x.val.cell? ⟨b, off + k * 7 + 5, none⟩ = some (.int .i64 s.crew) ∧ x.val.cell? ⟨b, off + k * 7 + 6, none⟩ = some (.int .i64 s.power) := by
  have h : ∀ j u, s.cells[j]? = some u → x.val.cell? ⟨b, off + k * 7 + j, none⟩ = some u := fun j u hu => by rw [Nat.add_assoc]; exact x.cell (hc k s hs j u hu) hb
  exact ⟨h 0 _ rfl, h 1 _ rfl, h 2 _ rfl, h 3 _ rfl, h 4 _ rfl, h 5 _ rfl, h 6 _ rfl⟩
theorem MoveD.elem {l : List MoveD} {k : Nat} {s : MoveD} (hs : l[k]? = some s) (hb : b < B) (hc : ∀ i x, l[i]? = some x → ∀ j u, (x.cells)[j]? = some u → W.cell? ⟨b, off + (i * 5 + j), none⟩ = some u) (x : After B W) :
    x.val.cell? ⟨b, off + k * 5, none⟩ = some (.string s.set) ∧ x.val.cell? ⟨b, off + k * 5 + 1, none⟩ = some (.int .i64 s.to) ∧ x.val.cell? ⟨b, off + k * 5 + 2, none⟩ = some (.int .i64 s.speed) ∧ x.val.cell? ⟨b, off + k * 5 + 3, none⟩ = some (.int .i64 s.rise) ∧ x.val.cell? ⟨b, off + k * 5 + 4, none⟩ = some (.int .i64 s.fall) := by
  have h : ∀ j u, s.cells[j]? = some u → x.val.cell? ⟨b, off + k * 5 + j, none⟩ = some u := fun j u hu => by rw [Nat.add_assoc]; exact x.cell (hc k s hs j u hu) hb
  exact ⟨h 0 _ rfl, h 1 _ rfl, h 2 _ rfl, h 3 _ rfl, h 4 _ rfl⟩
theorem pairElem {l : List (ByteArray × ByteArray)} {k : Nat} {s : ByteArray × ByteArray} (hs : l[k]? = some s) (hb : b < B) (hc : ∀ i x, l[i]? = some x → ∀ j u, (pairCells x)[j]? = some u → W.cell? ⟨b, off + (i * 2 + j), none⟩ = some u) (x : After B W) :
    x.val.cell? ⟨b, off + k * 2, none⟩ = some (.string s.1) ∧ x.val.cell? ⟨b, off + k * 2 + 1, none⟩ = some (.string s.2) := by
  have h : ∀ j u, (pairCells s)[j]? = some u → x.val.cell? ⟨b, off + k * 2 + j, none⟩ = some u := fun j u hu => by rw [Nat.add_assoc]; exact x.cell (hc k s hs j u hu) hb
  exact ⟨h 0 _ rfl, h 1 _ rfl⟩
end
/-- numbers laid as a literal slice -/
theorem ints_at {W : World} {g : Nat} {t : TypeId} (l : List Int) (hl : l.length ≤ 1000) (h : W.heap[g]? = some (.cells (l.map (Value.int .i64)).toArray t (0, 0))) : SlAt W W.heap.size 1 intCells ⟨some ⟨g, 0, none⟩, l.length, l⟩ := by
  refine ⟨Nat.le_refl _, by unfold maxLen; simp only; omega, fun _ => ⟨g, 0, rfl, (Array.getElem?_eq_some_iff.1 h).1, fun i x hi j u hu => ?_⟩⟩
  have hj : j = 0 := by
    have := (List.getElem?_eq_some_iff.1 hu).1
    simp [intCells] at this
    exact this
  subst hj
  have hu' : u = .int .i64 x := by simpa [intCells] using hu.symm
  have hi' : l[i]? = some x := hi
  rw [hu', show 0 + (i * 1 + 0) = i by omega, Joins.cell_of_block h i]
  simp [hi']

def valPair (e : ByteArray × ByteArray) : Value := .agg #[.string e.1, .string e.2]
set_option maxHeartbeats 400000 in
theorem indexPair_any (A : Option Addr) (cap : Nat) (l : List (ByteArray × ByteArray)) (p : ByteArray × ByteArray → Bool) (g : Nat) (lb : Array Value) (eg : ∀ args w, (callFunc g args).run Tryz.prog w = .ok (.enter g args) w) (W : World) (B : Nat) (hB : B ≤ W.heap.size) (hs : SlAt W B 2 pairCells ⟨A, cap, l⟩)
    (hp : Answers Tryz.prog g lb valPair p W.heap.size W l) :
    Calls Tryz.prog 97 #[.slice A l.length cap, .func (.func g) #[] lb] W (Gives W (.int .i64 (idx p l))) := by
  have HS := hide hs
  have HP := hide hp
  have hm : cap ≤ 9223372036854775807 := hs.2.1
  have hlc : l.length ≤ cap := hs.1
  clear hs hp
  go_enter Tryz.func97, Tryz.ntmps97
  go_wp2
  go_loopw [8] (fun v wr => ∃ k : Nat, v = .int .i64 k ∧ k ≤ l.length ∧ Hid (∀ j y, j < k → l[j]? = some y → p y = false) ∧ ∃ x : After W.heap.size W, wr = x.val) (fun v _ => l.length - (intOf v).toNat)
  case atStart => exact ⟨0, rfl, Nat.zero_le _, fun j y hj => absurd hj (by omega), After.refl _ _, rfl⟩
  case round =>
    obtain ⟨k, rfl, hk, hall, x, rfl⟩ := hrel
    by_cases hlt : k < l.length
    · obtain ⟨b, off, hA, hb, hcell⟩ := HS.out.2.2 (show 0 < l.length by omega)
      simp only at hA
      subst hA
      have hx : l[k]? = some l[k] := List.getElem?_eq_getElem hlt
      have he := fun x : After W.heap.size W => pairElem hx (show b < W.heap.size by omega) hcell x
      have HC := hide hcell
      have HX := hide hx
      clear hcell hx
      cases hpk : p l[k]
      · go_wp2_with fail
        refine (Gives.after (Nat.le_refl _) (HP.out x l[k] (List.getElem_mem hlt))).mono ?_
        rintro e w' ⟨rfl, x, rfl⟩
        go_wp2
        exact ⟨⟨k + 1, by go_num, by omega, none_next hall.out HX.out hpk, _, rfl⟩, by simp [intOf]; omega⟩
      · go_wp2_with fail
        refine (Gives.after (Nat.le_refl _) (HP.out x l[k] (List.getElem_mem hlt))).mono ?_
        rintro e w' ⟨rfl, x, rfl⟩
        go_wp2
        go_ret
        exact Gives.mk (congrArg (Value.int IntKind.i64) (idx_some HX.out hpk hall.out).symm) x.below
    · go_wp2
      go_ret
      exact Gives.mk (congrArg (Value.int IntKind.i64) (idx_none fun j y hj hy => hall.out j y (by omega) hy).symm) x.below
set_option maxHeartbeats 400000 in
theorem containsPair_any (A : Option Addr) (cap : Nat) (l : List (ByteArray × ByteArray)) (p : ByteArray × ByteArray → Bool) (g : Nat) (lb : Array Value) (eg : ∀ args w, (callFunc g args).run Tryz.prog w = .ok (.enter g args) w) (W : World) (B : Nat) (hB : B ≤ W.heap.size) (hs : SlAt W B 2 pairCells ⟨A, cap, l⟩)
    (hp : Answers Tryz.prog g lb valPair p W.heap.size W l) :
    Calls Tryz.prog 69 #[.slice A l.length cap, .func (.func g) #[] lb] W (Gives W (.bool (l.any p))) := by
  have HS := hide hs
  have HP := hide hp
  clear hs hp
  go_enter Tryz.func69, Tryz.ntmps69
  go_wp2_with fail
  refine (Gives.first (indexPair_any _ _ l p g lb eg W B hB HS.out HP.out)).mono ?_
  rintro e w' ⟨rfl, x, rfl⟩
  go_wp2
  go_ret
  exact Gives.mk (congrArg Value.bool (idx_nonneg p l)) x.below

def shortB (n : Int) : Bool := decide (-1000000000000000 < n) && decide (n < 1000000000000000)
theorem enters_short1 : ∀ args w, (callFunc 96 args).run Tryz.prog w = .ok (.enter 96 args) w := entersOf Tryz.func96 (by kernel_rfl) rfl
set_option maxHeartbeats 400000 in
theorem short1_any (n : Int) (w : World) : Calls Tryz.prog 96 #[.int .i64 n] w (Gives w (.bool (!shortB n))) := by
  go_enter Tryz.func96, Tryz.ntmps96
  by_cases h1 : n ≤ -1000000000000000
  · have e : shortB n = false := by simp [shortB]; omega
    rw [e]
    go_wp2
    go_ret
    exact Gives.mk rfl (Below.refl _ _)
  · by_cases h2 : (1000000000000000 : Int) ≤ n
    · have e : shortB n = false := by simp [shortB]; omega
      rw [e]
      go_wp2
      go_ret
      exact Gives.mk rfl (Below.refl _ _)
    · have e : shortB n = true := by simp [shortB]; omega
      rw [e]
      go_wp2
      go_ret
      exact Gives.mk rfl (Below.refl _ _)
theorem any_not_all {α : Type} (p : α → Bool) (l : List α) : (!l.any fun x => !p x) = l.all p := by
  induction l with
  | nil => rfl
  | cons a l ih => simp only [List.any_cons, List.all_cons, ← ih]; cases p a <;> simp
set_option maxHeartbeats 400000 in
theorem short_any (A : Option Addr) (cap : Nat) (l : List Int) (W : World) (B : Nat) (hB : B ≤ W.heap.size) (hs : SlAt W B 1 intCells ⟨A, cap, l⟩) : Calls Tryz.prog 68 #[.slice A l.length cap] W (Gives W (.bool (l.all shortB))) := by
  go_enter Tryz.func68, Tryz.ntmps68
  go_wp2_with fail
  refine (Gives.first (containsInt_any A cap l (fun n => !shortB n) _ #[] enters_short1 W B hB hs (fun x e _ => short1_any e x.val))).mono ?_
  rintro e w' ⟨rfl, x, rfl⟩
  go_wp2
  go_ret
  exact Gives.mk (congrArg Value.bool (any_not_all shortB l)) x.below
def pairB (p : ByteArray × ByteArray) : Bool := isName p.1 && isName p.2
theorem enters_writable1 : ∀ args w, (callFunc 70 args).run Tryz.prog w = .ok (.enter 70 args) w := entersOf Tryz.func70 (by kernel_rfl) rfl
set_option maxHeartbeats 1000000 in
theorem writable1_any (p : ByteArray × ByteArray) (h1 : p.1.size ≤ maxLen) (h2 : p.2.size ≤ maxLen) (w : World) : Calls Tryz.prog 70 #[.agg #[.string p.1, .string p.2]] w (Gives w (.bool (!pairB p))) := by
  obtain ⟨a, b⟩ := p
  obtain ⟨W, hW, hWs, hWb, hWh⟩ := boxed w (.cells #[.string a, .string b] 100)
  have hc := fun y : After W.heap.size W => And.intro (y.cells hWh (by omega) 0 _ rfl) (y.cells hWh (by omega) 1 _ rfl)
  have hbd : ∀ y : After W.heap.size W, Below w.heap.size w y.val := fun y => hWb.trans (y.below.mono (by omega))
  have HW := hide hW
  have HBD := hide hbd
  have hc0 := hc (After.refl _ _)
  simp only [After.refl] at hc0
  have HC := hide hc
  clear hW hWs hWb hWh hbd
  simp only [pairB]
  go_enter Tryz.func70, Tryz.ntmps70
  cases ha : isName a
  · go_wp2_with (go_at_call 57; rw [← HW.out]; refine (Gives.first (isName_any _ _ h1)).mono ?_; rintro e w' ⟨rfl, y, rfl⟩; rw [ha])
    go_ret
    exact Gives.mk rfl (HBD.out y)
  · go_wp2_with (first
      | (go_at_call 57; rw [← HW.out]; refine (Gives.first (isName_any _ _ h1)).mono ?_; rintro e w' ⟨rfl, y, rfl⟩; rw [ha])
      | (go_at_call 57; refine (Gives.after (Nat.le_refl _) (isName_any _ _ h2)).mono ?_; rintro e w' ⟨rfl, z, rfl⟩))
    go_ret
    exact Gives.mk rfl (HBD.out _)
end Go.Proofs.YtcdkhlndohokcaaGreatDoor
