/- slices.Equal at equal logs; the statements' bounds: long and heavy; the chapter's example. -/
import Derived.Test.YtemlaliackblkaaDoorLedRefDec
namespace Go.Proofs.YtemlaliackblkaaDoor
open Go.RowKit

/-- some truth value -/
def SomeBool (w : World) (e : Ending) (w' : World) : Prop := ∃ v : Bool, e = .returned (.bool v) ∧ Below w.heap.size w w'
set_option maxHeartbeats 4000000 in
set_option maxRecDepth 100000 in
theorem equalSame_any (l : List LogD) (A1 A2 : Option Addr) (c1 c2 : Nat) (w : World) (B1 B2 : Nat) (hB1 : B1 ≤ w.heap.size) (hB2 : B2 ≤ w.heap.size) (h1 : SlAt w B1 4 LogD.cells ⟨A1, c1, l⟩) (h2 : SlAt w B2 4 LogD.cells ⟨A2, c2, l⟩) :
    Calls Tryd.prog 20 #[.slice A1 l.length c1, .slice A2 l.length c2] w (Gives w (.bool true)) := by
  have hl1 : l.length ≤ c1 := h1.1
  have hm1 : c1 ≤ 9223372036854775807 := h1.2.1
  have H1 := hide h1
  have H2 := hide h2
  clear h1 h2
  obtain ⟨N, hN⟩ : ∃ N, N = l.length := ⟨_, rfl⟩
  rw [← hN] at hl1 ⊢
  have HN := hide hN
  clear hN
  go_enter Tryd.func20, Tryd.ntmps20
  go_wp2
  go_loopw [13] (fun v wr => ∃ k : Nat, v = .int .i64 k ∧ k ≤ N ∧ ∃ x : After w.heap.size w, wr = x.val) (fun v _ => N - (intOf v).toNat)
  case atStart => exact ⟨0, rfl, Nat.zero_le _, After.refl _ _, rfl⟩
  case round =>
    obtain ⟨k, rfl, hk, x, rfl⟩ := hrel
    by_cases hlt : k < N
    · obtain ⟨t, ht⟩ : ∃ t, l[k]? = some t := ⟨l[k]'(by have := HN.out; omega), List.getElem?_eq_getElem _⟩
      obtain ⟨g1, o1, hA1, hg1, hc1⟩ := H1.out.2.2 (by have := HN.out; simp only; omega)
      obtain ⟨g2, o2, hA2, hg2, hc2⟩ := H2.out.2.2 (by have := HN.out; simp only; omega)
      simp only at hA1 hA2
      subst hA1 hA2
      have ha := fun y : After w.heap.size w => LogD.elem ht (show g1 < w.heap.size by omega) hc1 y
      have hb := fun y : After w.heap.size w => LogD.elem ht (show g2 < w.heap.size by omega) hc2 y
      have k0 : 0 ≤ (k : Int) := by omega
      have k1 : (k : Int) < (N : Int) := by omega
      clear hc1 hc2 ht H1 H2
      go_wp2
      refine wp_region_after x (by kernel_rfl) (by kernel_rfl) ?_
      repeat (go_big_quiet_step (fail))
      refine wpQuiet_nil ?_
      intro z
      go_wp2
      exact ⟨⟨k + 1, by go_num, by omega, z, rfl⟩, by simp [intOf]; omega⟩
    · go_wp2
      go_ret
      exact Gives.mk rfl x.below
set_option maxRecDepth 100000 in
theorem longOne_any (x : LogD) (w : World) : Calls Tryd.prog 34 #[.agg #[.int .i64 x.day, .string x.rope, .int .i64 x.kind, .int .i64 x.runs]] w (Gives w (.bool (decide (60 < (x.rope.size : Int))))) := by
  obtain ⟨W, hW, hWs, hWb, hWh⟩ := boxed w (.cells #[.int .i64 x.day, .string x.rope, .int .i64 x.kind, .int .i64 x.runs] 24)
  have hc := LogD.boxed hWh (by omega) (After.refl W.heap.size W)
  simp only [After.refl] at hc
  have HB := hide hWb
  have HW := hide hW
  rw [hW] at hc
  clear hW hWs hWb hWh
  go_enter Tryd.func34, Tryd.ntmps34
  go_wp2
  go_ret
  exact Gives.mk rfl ((Below.refl _ _).alloc (Nat.le_refl _) _)
theorem eg_long : ∀ args w, (callFunc 34 args).run Tryd.prog w = .ok (.enter 34 args) w := entersOf Tryd.func34 (by kernel_rfl) rfl
set_option maxRecDepth 100000 in
set_option maxHeartbeats 1000000 in
theorem indexLog_any (A : Option Addr) (cap : Nat) (l : List LogD) (W : World) (B : Nat) (hB : B ≤ W.heap.size) (hs : SlAt W B 4 LogD.cells ⟨A, cap, l⟩) :
    Calls Tryd.prog 50 #[.slice A l.length cap, .func (.func 34) #[] #[]] W fun e w' => ∃ i : Int, e = .returned (.int .i64 i) ∧ Below W.heap.size W w' := by
  have eg := eg_long
  have HS := hide hs
  have hm : cap ≤ 9223372036854775807 := hs.2.1
  have hlc : l.length ≤ cap := hs.1
  clear hs
  go_enter Tryd.func50, Tryd.ntmps50
  go_wp2
  go_loopw [8] (fun v wr => ∃ k : Nat, v = .int .i64 k ∧ k ≤ l.length ∧ ∃ x : After W.heap.size W, wr = x.val) (fun v _ => l.length - (intOf v).toNat)
  case atStart => exact ⟨0, rfl, Nat.zero_le _, After.refl _ _, rfl⟩
  case round =>
    obtain ⟨k, rfl, hk, x, rfl⟩ := hrel
    by_cases hlt : k < l.length
    · obtain ⟨b, off, hA, hb, hcell⟩ := HS.out.2.2 (show 0 < l.length by omega)
      simp only at hA
      subst hA
      have hx : l[k]? = some l[k] := List.getElem?_eq_getElem hlt
      have he := fun x : After W.heap.size W => LogD.elem hx (show b < W.heap.size by omega) hcell x
      obtain ⟨q, hq⟩ : ∃ q, q = l[k] := ⟨_, rfl⟩
      rw [← hq] at he
      obtain ⟨d, hd⟩ : ∃ d, d = decide (60 < (q.rope.size : Int)) := ⟨_, rfl⟩
      have KL := hide (Gives.after (x := x) (Nat.le_refl _) (longOne_any q x.val))
      rw [← hd] at KL
      clear hcell hx hq hd
      cases d
      · go_wp2_with fail
        refine KL.out.mono ?_
        rintro e w' ⟨rfl, x, rfl⟩
        go_wp2
        exact ⟨⟨k + 1, by go_num, by omega, _, rfl⟩, by simp [intOf]; omega⟩
      · go_wp2_with fail
        refine KL.out.mono ?_
        rintro e w' ⟨rfl, x, rfl⟩
        go_wp2
        go_ret
        exact ⟨_, rfl, x.below⟩
    · go_wp2
      go_ret
      exact ⟨_, rfl, x.below⟩
theorem containsLog_any (A : Option Addr) (cap : Nat) (l : List LogD) (W : World) (B : Nat) (hB : B ≤ W.heap.size) (hs : SlAt W B 4 LogD.cells ⟨A, cap, l⟩) :
    Calls Tryd.prog 33 #[.slice A l.length cap, .func (.func 34) #[] #[]] W (SomeBool W) := by
  have KI := hide (indexLog_any A cap l W B hB hs)
  clear hs
  go_enter Tryd.func33, Tryd.ntmps33
  go_wp2_with fail
  refine KI.out.mono ?_
  rintro e w1 ⟨i, rfl, hb⟩
  go_wp2
  go_ret
  exact ⟨_, rfl, hb⟩
set_option maxRecDepth 100000 in
set_option maxHeartbeats 1000000 in
theorem long_any (A : Option Addr) (cap : Nat) (l : List LogD) (w : World) (B : Nat) (hB : B ≤ w.heap.size) (hs : SlAt w B 4 LogD.cells ⟨A, cap, l⟩) :
    Calls Tryd.prog 14 #[.slice A l.length cap] w (SomeBool w) := by
  have KC := hide (containsLog_any A cap l w B hB hs)
  obtain ⟨n, hn⟩ : ∃ n : Int, n = (l.length : Int) := ⟨_, rfl⟩
  clear hs
  rcases (show n ≤ 20 ∨ (20 < n ∧ n ≤ 1000) ∨ (1000 < n ∧ n ≤ 1005) ∨ 1005 < n by omega) with h | ⟨h, h2⟩ | ⟨h, h2⟩ | h
  all_goals
    rw [hn] at h
    try rw [hn] at h2
    try have h3 : 20 < (l.length : Int) := by omega
    try have h4 : ¬ (1005 < (l.length : Int)) := by omega
    try have h5 : 1000 < (l.length : Int) := by omega
    clear hn
    go_enter Tryd.func14, Tryd.ntmps14
    go_wp2_with fail
    first
      | (go_ret; exact ⟨_, rfl, Below.refl _ _⟩)
      | (refine KC.out.mono ?_
         rintro e w1 ⟨v, rfl, hb⟩
         go_wp2
         go_ret
         exact ⟨_, rfl, hb⟩)
set_option maxRecDepth 100000 in
set_option maxHeartbeats 1000000 in
theorem heavy_any (A : Option Addr) (cap : Nat) (b : List UInt8) (w : World) : Calls Tryd.prog 10 #[.slice A b.length cap] w (SomeBool w) := by
  obtain ⟨n, hn⟩ : ∃ n : Int, n = (b.length : Int) := ⟨_, rfl⟩
  rcases (show n ≤ 2000 ∨ (2000 < n ∧ n ≤ 1048576) ∨ 1048576 < n by omega) with h | ⟨h, h2⟩ | h
  all_goals
    rw [hn] at h
    try rw [hn] at h2
    try have h3 : 2000 < (b.length : Int) := by omega
    clear hn
    go_enter Tryd.func10, Tryd.ntmps10
    go_wp2
    go_ret
    exact ⟨_, rfl, Below.refl _ _⟩
end Go.Proofs.YtemlaliackblkaaDoor
