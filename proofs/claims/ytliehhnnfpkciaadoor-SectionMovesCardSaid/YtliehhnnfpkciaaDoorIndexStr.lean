/- slices.IndexFunc and ContainsFunc at strings: what they give where the function value answers by a predicate. -/
import Derived.Test.YtliehhnnfpkciaaDoorIndex
namespace Go.Proofs.YtliehhnnfpkciaaDoor
open Go.RowKit

def strCells (s : ByteArray) : List Value := [.string s]
theorem strElem {W : World} {B b off : Nat} {l : List ByteArray} {k : Nat} {s : ByteArray} (hs : l[k]? = some s) (hb : b < B) (hc : ∀ i x, l[i]? = some x → ∀ j u, (strCells x)[j]? = some u → W.cell? ⟨b, off + (i * 1 + j), none⟩ = some u) (x : After B W) :
    x.val.cell? ⟨b, off + k, none⟩ = some (.string s) := by
  have h := hc k s hs 0 (.string s) rfl
  simp only [Nat.mul_one, Nat.add_zero] at h
  exact x.cell h hb
def valStr (e : ByteArray) : Value := .string e
set_option maxHeartbeats 400000 in
theorem indexStr_any (A : Option Addr) (cap : Nat) (l : List ByteArray) (p : ByteArray → Bool) (g : Nat) (lb : Array Value) (eg : ∀ args w, (callFunc g args).run Tryd.prog w = .ok (.enter g args) w) (W : World) (B : Nat) (hB : B ≤ W.heap.size) (hs : SlAt W B 1 strCells ⟨A, cap, l⟩)
    (hp : Answers Tryd.prog g lb valStr p W.heap.size W l) :
    Calls Tryd.prog 82 #[.slice A l.length cap, .func (.func g) #[] lb] W (Gives W (.int .i64 (idx p l))) := by
  have HS := hide hs
  have HP := hide hp
  have hm : cap ≤ 9223372036854775807 := hs.2.1
  have hlc : l.length ≤ cap := hs.1
  clear hs hp
  go_enter Tryd.func82, Tryd.ntmps82
  go_wp2
  go_loopw [8] (fun v wr => ∃ k : Nat, v = .int .i64 k ∧ k ≤ l.length ∧ Hid (∀ j y, j < k → l[j]? = some y → p y = false) ∧ ∃ x : After W.heap.size W, wr = x.val) (fun v _ => l.length - (intOf v).toNat)
  case atStart => exact ⟨0, rfl, Nat.zero_le _, fun j y hj => absurd hj (by omega), After.refl _ _, rfl⟩
  case round =>
    obtain ⟨k, rfl, hk, hall, x, rfl⟩ := hrel
    by_cases hlt : k < l.length
    · obtain ⟨b, off, hA, hb, hcell⟩ := HS.out.2.2 (show 0 < l.length by omega)
      simp only at hA
      subst hA
      have hx : l[k]? = some l[k] := List.getElem?_eq_getElem hlt
      have he := fun x : After W.heap.size W => strElem hx (show b < W.heap.size by omega) hcell x
      have HC := hide hcell
      have HX := hide hx
      clear hcell hx
      cases hpk : p l[k]
      · go_wp2_with fail
        refine (Gives.after (Nat.le_refl _) (HP.out x l[k] (List.getElem_mem hlt))).mono ?_
        rintro e w' ⟨rfl, x, rfl⟩
        go_wp2
        exact ⟨⟨k + 1, by go_num, by omega, none_next hall.out HX.out hpk, _, rfl⟩, by simp [intOf]; omega⟩
      · go_wp2_with fail
        refine (Gives.after (Nat.le_refl _) (HP.out x l[k] (List.getElem_mem hlt))).mono ?_
        rintro e w' ⟨rfl, x, rfl⟩
        go_wp2
        go_ret
        exact Gives.mk (congrArg (Value.int IntKind.i64) (idx_some HX.out hpk hall.out).symm) x.below
    · go_wp2
      go_ret
      exact Gives.mk (congrArg (Value.int IntKind.i64) (idx_none fun j y hj hy => hall.out j y (by omega) hy).symm) x.below
set_option maxHeartbeats 400000 in
theorem containsStr_any (A : Option Addr) (cap : Nat) (l : List ByteArray) (p : ByteArray → Bool) (g : Nat) (lb : Array Value) (eg : ∀ args w, (callFunc g args).run Tryd.prog w = .ok (.enter g args) w) (W : World) (B : Nat) (hB : B ≤ W.heap.size) (hs : SlAt W B 1 strCells ⟨A, cap, l⟩)
    (hp : Answers Tryd.prog g lb valStr p W.heap.size W l) :
    Calls Tryd.prog 56 #[.slice A l.length cap, .func (.func g) #[] lb] W (Gives W (.bool (l.any p))) := by
  have HS := hide hs
  have HP := hide hp
  clear hs hp
  go_enter Tryd.func56, Tryd.ntmps56
  go_wp2_with fail
  refine (Gives.first (indexStr_any _ _ l p g lb eg W B hB HS.out HP.out)).mono ?_
  rintro e w' ⟨rfl, x, rfl⟩
  go_wp2
  go_ret
  exact Gives.mk (congrArg Value.bool (idx_nonneg p l)) x.below
end Go.Proofs.YtliehhnnfpkciaaDoor
