/- reeving.Text of a valid system, and ratio.Text. -/
import Derived.Test.YtgamhdbcejkllaaGreatDoorReeveParts
import Derived.Test.YtgamhdbcejkllaaGreatDoorWriteString
import Derived.Test.YtgamhdbcejkllaaGreatDoorReeveLib
import Derived.Test.YtgamhdbcejkllaaGreatDoorQuietTail
namespace Go.Proofs.YtgamhdbcejkllaaGreatDoor
open Go.RowKit

def itoaB (n : Int) : ByteArray := ⟨(Lib.itoa n).toArray⟩
def fracT (n d : Int) : ByteArray := if d = 1 then itoaB n else itoaB n ++ ⟨#[47]⟩ ++ itoaB d
theorem app_size (a b : ByteArray) : (a ++ b).size = a.size + b.size := ByteArray.size_append
theorem fracT_size (n d : Int) (hn : I64 n) (hd : I64 d) : (fracT n d).size ≤ 43 := by
  have h1 := itoa_size n hn
  have h2 := itoa_size d hd
  unfold fracT itoaB
  split
  · omega
  · rw [app_size, app_size]
    have : (⟨#[47]⟩ : ByteArray).size = 1 := rfl
    omega
set_option maxRecDepth 100000 in
set_option maxHeartbeats 2000000 in
theorem fracText_any (n d : Int) (hn : I64 n) (hd : I64 d) (w : World) (ht : Tabs w) : Calls Tryz.prog 47 #[.agg #[.int .i64 n, .int .i64 d]] w (Gives w (.string (fracT n d))) := by
  obtain ⟨W, hW, hWs, hWb, hWh⟩ := boxed w (.cells #[.int .i64 n, .int .i64 d] 55)
  have hc0 := fun y : After W.heap.size W => y.cells hWh (by omega) 0 _ rfl
  have hc1 := fun y : After W.heap.size W => y.cells hWh (by omega) 1 _ rfl
  have HBD := hide fun y : After W.heap.size W => hWb.trans (y.below.mono (by omega))
  have htW := (ht.below hWb)
  have KI := hide fun (m : Int) (hm : I64 m) (y : After W.heap.size W) => Gives.after (x := y) (Nat.le_refl _) (itoa_any m hm y.val (htW.below y.below))
  have YR : W = (After.refl W.heap.size W).val := rfl
  have HW := hide hW
  have hs1 : (itoaB n).size ≤ 21 := itoa_size n hn
  have hs2 : (itoaB d).size ≤ 21 := itoa_size d hd
  have e1 : ∀ m, (⟨(Lib.itoa m).toArray⟩ : ByteArray) = itoaB m := fun _ => rfl
  simp only [e1] at KI
  clear hW hWs hWh hWb ht htW e1
  by_cases h1 : d = 1
  · have HF := hide (show fracT n d = itoaB n by rw [fracT, if_pos h1])
    subst h1
    go_enter Tryz.func47, Tryz.ntmps47
    go_wp2_with (go_at_call 22; rw [← HW.out, YR]; refine (KI.out n hn _).mono ?_; rintro e w' ⟨rfl, y, rfl⟩)
    go_ret
    exact Gives.mk (by rw [HF.out]; rfl) (HBD.out _)
  · have HF := hide (show fracT n d = itoaB n ++ ⟨#[47]⟩ ++ itoaB d by rw [fracT, if_neg h1])
    have h2 : (d == 1) = false := by simpa using h1
    go_enter Tryz.func47, Tryz.ntmps47
    go_wp2_with fail
    rw [← HW.out, YR]
    refine wp_region_after (After.refl _ _) (by kernel_rfl) (by kernel_rfl) ?_
    repeat (go_big_quiet_step (first
      | (go_at_call_of 22 n; exact KI.out n hn _)
      | (go_at_call_of 22 d; exact KI.out d hd _)))
    refine wpQuiet_nil ?_
    intro z
    go_wp2
    go_ret
    exact Gives.mk (by rw [HF.out]; rfl) (HBD.out z)
set_option maxRecDepth 100000 in
set_option maxHeartbeats 2000000 in
theorem ratioText_any (n d : Int) (hn : I64 n) (hd : I64 d) (hf : fracOk n d = true) (w : World) (ht : Tabs w) : Calls Tryz.prog 23 #[.agg #[.int .i64 n, .int .i64 d]] w (Gives w (.tuple #[.string (fracT n d), .int .i64 0])) := by
  obtain ⟨W, hW, hWs, hWb, hWh⟩ := boxed w (.cells #[.int .i64 n, .int .i64 d] 55)
  have hc0 := fun y : After W.heap.size W => y.cells hWh (by omega) 0 _ rfl
  have hc1 := fun y : After W.heap.size W => y.cells hWh (by omega) 1 _ rfl
  have HBD := hide fun y : After W.heap.size W => hWb.trans (y.below.mono (by omega))
  have htW := (ht.below hWb)
  have KT := hide fun y : After W.heap.size W => Gives.after (x := y) (Nat.le_refl _) (fracText_any n d hn hd y.val (htW.below y.below))
  have KV := hide (Gives.first (fracValid_any n d hn W))
  rw [hf] at KV
  have HW := hide hW
  clear hW hWs hWh hWb ht htW hf
  go_enter Tryz.func23, Tryz.ntmps23
  go_wp2_with (first
    | (go_at_call 46; rw [← HW.out]; refine KV.out.mono ?_; rintro e w' ⟨rfl, y, rfl⟩)
    | (go_at_call 47; refine (KT.out y).mono ?_; rintro e w' ⟨rfl, y2, rfl⟩))
  go_returns
  exact Gives.mk rfl (HBD.out _)

/-! ### the text -/
def blockLn (b : BlockD) : ByteArray := (⟨#[98, 108, 111, 99, 107, 32]⟩ : ByteArray) ++ b.name ++ ⟨#[32]⟩ ++ itoaB b.weight ++ ⟨#[10]⟩
def atT (h : HoldD) : ByteArray := if h.block.toList.isEmpty then ⟨#[45]⟩ else h.block
def holdT (h : HoldD) : ByteArray := (⟨#[32]⟩ : ByteArray) ++ atT h ++ ⟨#[32]⟩ ++ itoaB h.pulls ++ ⟨#[32]⟩ ++ fracT h.num h.den
def ropeHd (r : RopeD) : ByteArray := (⟨#[114, 111, 112, 101, 32]⟩ : ByteArray) ++ r.name
def haulT (u : Bool) : ByteArray := if u then ⟨#[32, 104, 97, 117, 108, 101, 100]⟩ else ⟨#[32, 102, 105, 120, 101, 100]⟩
def holdsT (l : List HoldD) : List UInt8 := l.flatMap fun h => (holdT h).data.toList
def ropeT (r : RopeD) : List UInt8 := (ropeHd r).data.toList ++ (haulT r.hauled).data.toList ++ holdsT r.holds.l ++ [10]
def blocksT (l : List BlockD) : List UInt8 := l.flatMap fun b => (blockLn b).data.toList
def ropesT (l : List RopeD) : List UInt8 := l.flatMap ropeT
def sysT (s : SysD) : List UInt8 := blocksT s.blocks.l ++ ropesT s.ropes.l
/-- the names are short, and the fractions valid -/
structure TextFit (s : SysD) : Prop where
  blocks : ∀ b ∈ s.blocks.l, b.name.size ≤ 20
  ropes : ∀ r ∈ s.ropes.l, r.name.size ≤ 20
  holds : ∀ r ∈ s.ropes.l, ∀ h ∈ r.holds.l, h.block.size ≤ 20 ∧ fracOk h.num h.den = true
theorem blockLn_size {b : BlockD} (h : b.name.size ≤ 20) (hw : I64 b.weight) : (blockLn b).size ≤ 100 := by
  have h1 := itoa_size b.weight hw
  unfold blockLn itoaB
  simp only [app_size]
  have e1 : (⟨#[98, 108, 111, 99, 107, 32]⟩ : ByteArray).size = 6 := rfl
  have e2 : (⟨#[32]⟩ : ByteArray).size = 1 := rfl
  have e3 : (⟨#[10]⟩ : ByteArray).size = 1 := rfl
  omega
theorem atT_size {h : HoldD} (hb : h.block.size ≤ 20) : (atT h).size ≤ 20 := by
  unfold atT
  split
  · exact (by decide : (⟨#[45]⟩ : ByteArray).size ≤ 20)
  · exact hb
theorem holdT_size {h : HoldD} (hb : h.block.size ≤ 20) (ho : h.ok) : (holdT h).size ≤ 100 := by
  have h1 := itoa_size h.pulls ho.pulls
  have h2 := atT_size hb
  have h3 := fracT_size h.num h.den ho.num ho.den
  unfold holdT
  unfold itoaB
  simp only [app_size]
  have e2 : (⟨#[32]⟩ : ByteArray).size = 1 := rfl
  omega
theorem next_flat {α : Type} {f : α → List UInt8} {l : List α} {k : Nat} {x : α} (h : l[k]? = some x) : (l.take (k + 1)).flatMap f = (l.take k).flatMap f ++ f x := by
  rw [List.take_add_one, h]; simp
end Go.Proofs.YtgamhdbcejkllaaGreatDoor
