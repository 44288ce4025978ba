/- slices.IndexFunc and ContainsFunc at the element types of this family: what they give where the function value answers by a predicate. -/
import Derived.Test.YtcdkhlndohokcaaGreatDoorProg
import Derived.Test.YtcdkhlndohokcaaGreatDoorData
namespace Go.Proofs.YtcdkhlndohokcaaGreatDoor
open Go.RowKit

/-- the index of the first element with p; -1 if there is none -/
def idxFrom {α : Type} (p : α → Bool) : Nat → List α → Int
  | _, [] => -1
  | i, x :: l => if p x then (i : Int) else idxFrom p (i + 1) l
def idx {α : Type} (p : α → Bool) (l : List α) : Int := idxFrom p 0 l
theorem idxFrom_none {α : Type} {p : α → Bool} : ∀ (l : List α) (i : Nat), (∀ x ∈ l, p x = false) → idxFrom p i l = -1
  | [], _, _ => rfl
  | x :: l, i, h => by rw [idxFrom, h x (by simp)]; exact idxFrom_none l (i + 1) fun y hy => h y (by simp [hy])
theorem idxFrom_some {α : Type} {p : α → Bool} : ∀ (l : List α) (i k : Nat) (x : α), l[k]? = some x → p x = true → (∀ j y, j < k → l[j]? = some y → p y = false) → idxFrom p i l = ((i + k : Nat) : Int)
  | [], _, _, _, h, _, _ => by simp at h
  | z :: l, i, 0, x, h, hp, _ => by simp at h; subst h; simp [idxFrom, hp]
  | z :: l, i, k + 1, x, h, hp, hn => by
    rw [idxFrom, hn 0 z (by omega) rfl, idxFrom_some l (i + 1) k x (by simpa using h) hp (fun j y hj hy => hn (j + 1) y (by omega) (by simpa using hy))]
    simp; omega
theorem idx_none {α : Type} {p : α → Bool} {l : List α} (h : ∀ j y, j < l.length → l[j]? = some y → p y = false) : idx p l = -1 := idxFrom_none l 0 fun x hx => by
  obtain ⟨j, hj, e⟩ := List.getElem_of_mem hx
  exact h j x hj (by rw [List.getElem?_eq_getElem hj, e])
theorem idx_some {α : Type} {p : α → Bool} {l : List α} {k : Nat} {x : α} (h : l[k]? = some x) (hp : p x = true) (hn : ∀ j y, j < k → l[j]? = some y → p y = false) : idx p l = (k : Int) := by
  have := idxFrom_some l 0 k x h hp hn
  simpa [idx] using this
theorem idx_nonneg {α : Type} (p : α → Bool) (l : List α) : decide (0 ≤ idx p l) = l.any p := by
  have key : ∀ (l : List α) (i : Nat), decide (0 ≤ idxFrom p i l) = l.any p := by
    intro l
    induction l with
    | nil => intro i; simp [idxFrom]
    | cons x l ih => intro i; rw [idxFrom, List.any_cons]; cases hp : p x <;> simp [ih]
  exact key l 0

theorem none_next {α : Type} {p : α → Bool} {l : List α} {k : Nat} {z : α} (h : ∀ j y, j < k → l[j]? = some y → p y = false) (hz : l[k]? = some z) (hp : p z = false) : ∀ j y, j < k + 1 → l[j]? = some y → p y = false := fun j y hj hy => by
  by_cases e : j = k
  · subst e; rw [hz] at hy; injection hy with hy; rw [← hy]; exact hp
  · exact h j y (by omega) hy

theorem oneOne (a b : Value) : #[a] ++ #[b] = #[a, b] := rfl
theorem oneTwo (a b c : Value) : #[a] ++ #[b, c] = #[a, b, c] := rfl
/-- What a function value is asked for: at each element, in every world that comes behind, it answers by p. -/
def Answers {α : Type} (P : Program) (g : Nat) (lb : Array Value) (val : α → Value) (p : α → Bool) (B : Nat) (W : World) (l : List α) : Prop :=
  ∀ (x : After B W) (e : α), e ∈ l → Calls P g (#[val e] ++ lb) x.val (Gives x.val (.bool (p e)))

def valInt (e : Int) : Value := .int .i64 e
set_option maxHeartbeats 400000 in
theorem indexInt_any (A : Option Addr) (cap : Nat) (l : List Int) (p : Int → Bool) (g : Nat) (lb : Array Value) (eg : ∀ args w, (callFunc g args).run Tryz.prog w = .ok (.enter g args) w) (W : World) (B : Nat) (hB : B ≤ W.heap.size) (hs : SlAt W B 1 intCells ⟨A, cap, l⟩)
    (hp : Answers Tryz.prog g lb valInt p W.heap.size W l) :
    Calls Tryz.prog 38 #[.slice A l.length cap, .func (.func g) #[] lb] W (Gives W (.int .i64 (idx p l))) := by
  have HS := hide hs
  have HP := hide hp
  have hm : cap ≤ 9223372036854775807 := hs.2.1
  have hlc : l.length ≤ cap := hs.1
  clear hs hp
  go_enter Tryz.func38, Tryz.ntmps38
  go_wp2
  go_loopw [8] (fun v wr => ∃ k : Nat, v = .int .i64 k ∧ k ≤ l.length ∧ Hid (∀ j y, j < k → l[j]? = some y → p y = false) ∧ ∃ x : After W.heap.size W, wr = x.val) (fun v _ => l.length - (intOf v).toNat)
  case atStart => exact ⟨0, rfl, Nat.zero_le _, fun j y hj => absurd hj (by omega), After.refl _ _, rfl⟩
  case round =>
    obtain ⟨k, rfl, hk, hall, x, rfl⟩ := hrel
    by_cases hlt : k < l.length
    · obtain ⟨b, off, hA, hb, hcell⟩ := HS.out.2.2 (show 0 < l.length by omega)
      simp only at hA
      subst hA
      have hx : l[k]? = some l[k] := List.getElem?_eq_getElem hlt
      have he := fun x : After W.heap.size W => intElem hx (show b < W.heap.size by omega) hcell x
      have HC := hide hcell
      have HX := hide hx
      clear hcell hx
      cases hpk : p l[k]
      · go_wp2_with fail
        refine (Gives.after (Nat.le_refl _) (HP.out x l[k] (List.getElem_mem hlt))).mono ?_
        rintro e w' ⟨rfl, x, rfl⟩
        go_wp2
        exact ⟨⟨k + 1, by go_num, by omega, none_next hall.out HX.out hpk, _, rfl⟩, by simp [intOf]; omega⟩
      · go_wp2_with fail
        refine (Gives.after (Nat.le_refl _) (HP.out x l[k] (List.getElem_mem hlt))).mono ?_
        rintro e w' ⟨rfl, x, rfl⟩
        go_wp2
        go_ret
        exact Gives.mk (congrArg (Value.int IntKind.i64) (idx_some HX.out hpk hall.out).symm) x.below
    · go_wp2
      go_ret
      exact Gives.mk (congrArg (Value.int IntKind.i64) (idx_none fun j y hj hy => hall.out j y (by omega) hy).symm) x.below
set_option maxHeartbeats 400000 in
theorem containsInt_any (A : Option Addr) (cap : Nat) (l : List Int) (p : Int → Bool) (g : Nat) (lb : Array Value) (eg : ∀ args w, (callFunc g args).run Tryz.prog w = .ok (.enter g args) w) (W : World) (B : Nat) (hB : B ≤ W.heap.size) (hs : SlAt W B 1 intCells ⟨A, cap, l⟩)
    (hp : Answers Tryz.prog g lb valInt p W.heap.size W l) :
    Calls Tryz.prog 22 #[.slice A l.length cap, .func (.func g) #[] lb] W (Gives W (.bool (l.any p))) := by
  have HS := hide hs
  have HP := hide hp
  clear hs hp
  go_enter Tryz.func22, Tryz.ntmps22
  go_wp2_with fail
  refine (Gives.first (indexInt_any _ _ l p g lb eg W B hB HS.out HP.out)).mono ?_
  rintro e w' ⟨rfl, x, rfl⟩
  go_wp2
  go_ret
  exact Gives.mk (congrArg Value.bool (idx_nonneg p l)) x.below
def valItem (e : ItemD) : Value := .agg #[.string e.name, .int .i64 e.place, .int .i64 e.width, .int .i64 e.weight, .int .i64 e.hang, .int .i64 e.front, .int .i64 e.back]
set_option maxHeartbeats 400000 in
theorem indexItem_any (A : Option Addr) (cap : Nat) (l : List ItemD) (p : ItemD → Bool) (g : Nat) (lb : Array Value) (eg : ∀ args w, (callFunc g args).run Tryz.prog w = .ok (.enter g args) w) (W : World) (B : Nat) (hB : B ≤ W.heap.size) (hs : SlAt W B 7 ItemD.cells ⟨A, cap, l⟩)
    (hp : Answers Tryz.prog g lb valItem p W.heap.size W l) :
    Calls Tryz.prog 100 #[.slice A l.length cap, .func (.func g) #[] lb] W (Gives W (.int .i64 (idx p l))) := by
  have HS := hide hs
  have HP := hide hp
  have hm : cap ≤ 9223372036854775807 := hs.2.1
  have hlc : l.length ≤ cap := hs.1
  clear hs hp
  go_enter Tryz.func100, Tryz.ntmps100
  go_wp2
  go_loopw [8] (fun v wr => ∃ k : Nat, v = .int .i64 k ∧ k ≤ l.length ∧ Hid (∀ j y, j < k → l[j]? = some y → p y = false) ∧ ∃ x : After W.heap.size W, wr = x.val) (fun v _ => l.length - (intOf v).toNat)
  case atStart => exact ⟨0, rfl, Nat.zero_le _, fun j y hj => absurd hj (by omega), After.refl _ _, rfl⟩
  case round =>
    obtain ⟨k, rfl, hk, hall, x, rfl⟩ := hrel
    by_cases hlt : k < l.length
    · obtain ⟨b, off, hA, hb, hcell⟩ := HS.out.2.2 (show 0 < l.length by omega)
      simp only at hA
      subst hA
      have hx : l[k]? = some l[k] := List.getElem?_eq_getElem hlt
      have he := fun x : After W.heap.size W => ItemD.elem hx (show b < W.heap.size by omega) hcell x
      have HC := hide hcell
      have HX := hide hx
      clear hcell hx
      cases hpk : p l[k]
      · go_wp2_with fail
        refine (Gives.after (Nat.le_refl _) (HP.out x l[k] (List.getElem_mem hlt))).mono ?_
        rintro e w' ⟨rfl, x, rfl⟩
        go_wp2
        exact ⟨⟨k + 1, by go_num, by omega, none_next hall.out HX.out hpk, _, rfl⟩, by simp [intOf]; omega⟩
      · go_wp2_with fail
        refine (Gives.after (Nat.le_refl _) (HP.out x l[k] (List.getElem_mem hlt))).mono ?_
        rintro e w' ⟨rfl, x, rfl⟩
        go_wp2
        go_ret
        exact Gives.mk (congrArg (Value.int IntKind.i64) (idx_some HX.out hpk hall.out).symm) x.below
    · go_wp2
      go_ret
      exact Gives.mk (congrArg (Value.int IntKind.i64) (idx_none fun j y hj hy => hall.out j y (by omega) hy).symm) x.below
set_option maxHeartbeats 400000 in
theorem containsItem_any (A : Option Addr) (cap : Nat) (l : List ItemD) (p : ItemD → Bool) (g : Nat) (lb : Array Value) (eg : ∀ args w, (callFunc g args).run Tryz.prog w = .ok (.enter g args) w) (W : World) (B : Nat) (hB : B ≤ W.heap.size) (hs : SlAt W B 7 ItemD.cells ⟨A, cap, l⟩)
    (hp : Answers Tryz.prog g lb valItem p W.heap.size W l) :
    Calls Tryz.prog 80 #[.slice A l.length cap, .func (.func g) #[] lb] W (Gives W (.bool (l.any p))) := by
  have HS := hide hs
  have HP := hide hp
  clear hs hp
  go_enter Tryz.func80, Tryz.ntmps80
  go_wp2_with fail
  refine (Gives.first (indexItem_any _ _ l p g lb eg W B hB HS.out HP.out)).mono ?_
  rintro e w' ⟨rfl, x, rfl⟩
  go_wp2
  go_ret
  exact Gives.mk (congrArg Value.bool (idx_nonneg p l)) x.below
def valSet (e : SetD) : Value := .agg #[.string e.name, .int .i64 e.depth, .int .i64 e.low, .int .i64 e.high, .int .i64 e.length, .slice e.lines.A e.lines.l.length e.lines.cap, .int .i64 e.pipe, .int .i64 e.arbor, .int .i64 e.purchase, .int .i64 e.most, .int .i64 e.brake, .slice e.items.A e.items.l.length e.items.cap, .slice e.bricks.A e.bricks.l.length e.bricks.cap]
set_option maxHeartbeats 400000 in
theorem indexSet_any (A : Option Addr) (cap : Nat) (l : List SetD) (p : SetD → Bool) (g : Nat) (lb : Array Value) (eg : ∀ args w, (callFunc g args).run Tryz.prog w = .ok (.enter g args) w) (W : World) (B : Nat) (hB : B ≤ W.heap.size) (hs : SlAt W B 13 SetD.cells ⟨A, cap, l⟩)
    (hp : Answers Tryz.prog g lb valSet p W.heap.size W l) :
    Calls Tryz.prog 94 #[.slice A l.length cap, .func (.func g) #[] lb] W (Gives W (.int .i64 (idx p l))) := by
  have HS := hide hs
  have HP := hide hp
  have hm : cap ≤ 9223372036854775807 := hs.2.1
  have hlc : l.length ≤ cap := hs.1
  clear hs hp
  go_enter Tryz.func94, Tryz.ntmps94
  go_wp2
  go_loopw [8] (fun v wr => ∃ k : Nat, v = .int .i64 k ∧ k ≤ l.length ∧ Hid (∀ j y, j < k → l[j]? = some y → p y = false) ∧ ∃ x : After W.heap.size W, wr = x.val) (fun v _ => l.length - (intOf v).toNat)
  case atStart => exact ⟨0, rfl, Nat.zero_le _, fun j y hj => absurd hj (by omega), After.refl _ _, rfl⟩
  case round =>
    obtain ⟨k, rfl, hk, hall, x, rfl⟩ := hrel
    by_cases hlt : k < l.length
    · obtain ⟨b, off, hA, hb, hcell⟩ := HS.out.2.2 (show 0 < l.length by omega)
      simp only at hA
      subst hA
      have hx : l[k]? = some l[k] := List.getElem?_eq_getElem hlt
      have he := fun x : After W.heap.size W => SetD.elem hx (show b < W.heap.size by omega) hcell x
      have HC := hide hcell
      have HX := hide hx
      clear hcell hx
      cases hpk : p l[k]
      · go_wp2_with fail
        refine (Gives.after (Nat.le_refl _) (HP.out x l[k] (List.getElem_mem hlt))).mono ?_
        rintro e w' ⟨rfl, x, rfl⟩
        go_wp2
        exact ⟨⟨k + 1, by go_num, by omega, none_next hall.out HX.out hpk, _, rfl⟩, by simp [intOf]; omega⟩
      · go_wp2_with fail
        refine (Gives.after (Nat.le_refl _) (HP.out x l[k] (List.getElem_mem hlt))).mono ?_
        rintro e w' ⟨rfl, x, rfl⟩
        go_wp2
        go_ret
        exact Gives.mk (congrArg (Value.int IntKind.i64) (idx_some HX.out hpk hall.out).symm) x.below
    · go_wp2
      go_ret
      exact Gives.mk (congrArg (Value.int IntKind.i64) (idx_none fun j y hj hy => hall.out j y (by omega) hy).symm) x.below
def valRoof (e : RoofD) : Value := .agg #[.string e.name, .int .i64 e.fro, .int .i64 e.til, .int .i64 e.most]
set_option maxHeartbeats 400000 in
theorem indexRoof_any (A : Option Addr) (cap : Nat) (l : List RoofD) (p : RoofD → Bool) (g : Nat) (lb : Array Value) (eg : ∀ args w, (callFunc g args).run Tryz.prog w = .ok (.enter g args) w) (W : World) (B : Nat) (hB : B ≤ W.heap.size) (hs : SlAt W B 4 RoofD.cells ⟨A, cap, l⟩)
    (hp : Answers Tryz.prog g lb valRoof p W.heap.size W l) :
    Calls Tryz.prog 104 #[.slice A l.length cap, .func (.func g) #[] lb] W (Gives W (.int .i64 (idx p l))) := by
  have HS := hide hs
  have HP := hide hp
  have hm : cap ≤ 9223372036854775807 := hs.2.1
  have hlc : l.length ≤ cap := hs.1
  clear hs hp
  go_enter Tryz.func104, Tryz.ntmps104
  go_wp2
  go_loopw [8] (fun v wr => ∃ k : Nat, v = .int .i64 k ∧ k ≤ l.length ∧ Hid (∀ j y, j < k → l[j]? = some y → p y = false) ∧ ∃ x : After W.heap.size W, wr = x.val) (fun v _ => l.length - (intOf v).toNat)
  case atStart => exact ⟨0, rfl, Nat.zero_le _, fun j y hj => absurd hj (by omega), After.refl _ _, rfl⟩
  case round =>
    obtain ⟨k, rfl, hk, hall, x, rfl⟩ := hrel
    by_cases hlt : k < l.length
    · obtain ⟨b, off, hA, hb, hcell⟩ := HS.out.2.2 (show 0 < l.length by omega)
      simp only at hA
      subst hA
      have hx : l[k]? = some l[k] := List.getElem?_eq_getElem hlt
      have he := fun x : After W.heap.size W => RoofD.elem hx (show b < W.heap.size by omega) hcell x
      have HC := hide hcell
      have HX := hide hx
      clear hcell hx
      cases hpk : p l[k]
      · go_wp2_with fail
        refine (Gives.after (Nat.le_refl _) (HP.out x l[k] (List.getElem_mem hlt))).mono ?_
        rintro e w' ⟨rfl, x, rfl⟩
        go_wp2
        exact ⟨⟨k + 1, by go_num, by omega, none_next hall.out HX.out hpk, _, rfl⟩, by simp [intOf]; omega⟩
      · go_wp2_with fail
        refine (Gives.after (Nat.le_refl _) (HP.out x l[k] (List.getElem_mem hlt))).mono ?_
        rintro e w' ⟨rfl, x, rfl⟩
        go_wp2
        go_ret
        exact Gives.mk (congrArg (Value.int IntKind.i64) (idx_some HX.out hpk hall.out).symm) x.below
    · go_wp2
      go_ret
      exact Gives.mk (congrArg (Value.int IntKind.i64) (idx_none fun j y hj hy => hall.out j y (by omega) hy).symm) x.below
set_option maxHeartbeats 400000 in
theorem containsRoof_any (A : Option Addr) (cap : Nat) (l : List RoofD) (p : RoofD → Bool) (g : Nat) (lb : Array Value) (eg : ∀ args w, (callFunc g args).run Tryz.prog w = .ok (.enter g args) w) (W : World) (B : Nat) (hB : B ≤ W.heap.size) (hs : SlAt W B 4 RoofD.cells ⟨A, cap, l⟩)
    (hp : Answers Tryz.prog g lb valRoof p W.heap.size W l) :
    Calls Tryz.prog 92 #[.slice A l.length cap, .func (.func g) #[] lb] W (Gives W (.bool (l.any p))) := by
  have HS := hide hs
  have HP := hide hp
  clear hs hp
  go_enter Tryz.func92, Tryz.ntmps92
  go_wp2_with fail
  refine (Gives.first (indexRoof_any _ _ l p g lb eg W B hB HS.out HP.out)).mono ?_
  rintro e w' ⟨rfl, x, rfl⟩
  go_wp2
  go_ret
  exact Gives.mk (congrArg Value.bool (idx_nonneg p l)) x.below
end Go.Proofs.YtcdkhlndohokcaaGreatDoor
