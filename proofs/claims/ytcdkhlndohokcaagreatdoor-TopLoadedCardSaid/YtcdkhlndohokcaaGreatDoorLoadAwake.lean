/- slices.IndexFunc and slices.ContainsFunc at jobs; the law's two conditions; loftblockref27.Short. The law's example: loftblocktop.writtenSet and writtenAwake. -/
import Derived.Test.YtcdkhlndohokcaaGreatDoorJobTurn
import Derived.Test.YtcdkhlndohokcaaGreatDoorSrcTextW
import Derived.Test.YtcdkhlndohokcaaGreatDoorWhole
namespace Go.Proofs.YtcdkhlndohokcaaGreatDoor
open Go Go.RowKit

def valJob (e : JobD) : Value := .agg #[.string e.name, .bool e.pipe, .int .i64 e.weight]
set_option maxHeartbeats 400000 in
theorem indexJob_any (A : Option Addr) (cap : Nat) (l : List JobD) (p : JobD → Bool) (g : Nat) (lb : Array Value) (eg : ∀ args w, (callFunc g args).run Tryz.prog w = .ok (.enter g args) w) (W : World) (B : Nat) (hB : B ≤ W.heap.size) (hs : SlAt W B 3 JobD.cells ⟨A, cap, l⟩)
    (hp : Answers Tryz.prog g lb valJob p W.heap.size W l) :
    Calls Tryz.prog 43 #[.slice A l.length cap, .func (.func g) #[] lb] W (Gives W (.int .i64 (idx p l))) := by
  have HS := hide hs
  have HP := hide hp
  have hm : cap ≤ 9223372036854775807 := hs.2.1
  have hlc : l.length ≤ cap := hs.1
  clear hs hp
  go_enter Tryz.func43, Tryz.ntmps43
  go_wp2
  go_loopw [8] (fun v wr => ∃ k : Nat, v = .int .i64 k ∧ k ≤ l.length ∧ Hid (∀ j y, j < k → l[j]? = some y → p y = false) ∧ ∃ x : After W.heap.size W, wr = x.val) (fun v _ => l.length - (intOf v).toNat)
  case atStart => exact ⟨0, rfl, Nat.zero_le _, fun j y hj => absurd hj (by omega), After.refl _ _, rfl⟩
  case round =>
    obtain ⟨k, rfl, hk, hall, x, rfl⟩ := hrel
    by_cases hlt : k < l.length
    · obtain ⟨b, off, hA, hb, hcell⟩ := HS.out.2.2 (show 0 < l.length by omega)
      simp only at hA
      subst hA
      have hx : l[k]? = some l[k] := List.getElem?_eq_getElem hlt
      have he := fun x : After W.heap.size W => JobD.elem hx (show b < W.heap.size by omega) hcell x
      have HC := hide hcell
      have HX := hide hx
      clear hcell hx
      cases hpk : p l[k]
      · go_wp2_with fail
        refine (Gives.after (Nat.le_refl _) (HP.out x l[k] (List.getElem_mem hlt))).mono ?_
        rintro e w' ⟨rfl, x, rfl⟩
        go_wp2
        exact ⟨⟨k + 1, by go_num, by omega, none_next hall.out HX.out hpk, _, rfl⟩, by simp [intOf]; omega⟩
      · go_wp2_with fail
        refine (Gives.after (Nat.le_refl _) (HP.out x l[k] (List.getElem_mem hlt))).mono ?_
        rintro e w' ⟨rfl, x, rfl⟩
        go_wp2
        go_ret
        exact Gives.mk (congrArg (Value.int IntKind.i64) (idx_some HX.out hpk hall.out).symm) x.below
    · go_wp2
      go_ret
      exact Gives.mk (congrArg (Value.int IntKind.i64) (idx_none fun j y hj hy => hall.out j y (by omega) hy).symm) x.below
set_option maxHeartbeats 400000 in
theorem containsJob_any (A : Option Addr) (cap : Nat) (l : List JobD) (p : JobD → Bool) (g : Nat) (lb : Array Value) (eg : ∀ args w, (callFunc g args).run Tryz.prog w = .ok (.enter g args) w) (W : World) (B : Nat) (hB : B ≤ W.heap.size) (hs : SlAt W B 3 JobD.cells ⟨A, cap, l⟩)
    (hp : Answers Tryz.prog g lb valJob p W.heap.size W l) :
    Calls Tryz.prog 15 #[.slice A l.length cap, .func (.func g) #[] lb] W (Gives W (.bool (l.any p))) := by
  have HS := hide hs
  have HP := hide hp
  clear hs hp
  go_enter Tryz.func15, Tryz.ntmps15
  go_wp2_with fail
  refine (Gives.first (indexJob_any _ _ l p g lb eg W B hB HS.out HP.out)).mono ?_
  rintro e w' ⟨rfl, x, rfl⟩
  go_wp2
  go_ret
  exact Gives.mk (congrArg Value.bool (idx_nonneg p l)) x.below
set_option maxHeartbeats 1000000 in
theorem loaded1_any (x : JobD) (w : World) : Calls Tryz.prog 16 #[.agg #[.string x.name, .bool x.pipe, .int .i64 x.weight]] w (Gives w (.bool (Lib.hasPrefix x.name.data.toList preB))) := by
  obtain ⟨W, hW, hWs, hWb, hWh⟩ := boxed w (.cells #[.string x.name, .bool x.pipe, .int .i64 x.weight] 37)
  have hc := JobD.boxed hWh (by omega) (After.refl W.heap.size W)
  simp only [After.refl] at hc
  have KH := hide (Tryz.strings_HasPrefix x.name ⟨#[119, 95, 98, 97, 99, 107, 95]⟩ W)
  obtain ⟨b, hb⟩ : ∃ b, b = Lib.hasPrefix x.name.data.toList preB := ⟨_, rfl⟩
  rw [show (⟨#[119, 95, 98, 97, 99, 107, 95]⟩ : ByteArray).data.toList = preB from rfl, ← hb] at KH
  rw [← hb]
  have HW := hide hW
  have HB := hide hWb
  clear hW hWh hWb hb
  go_enter Tryz.func16, Tryz.ntmps16
  go_upto_region 1 with fail
  rw [← HW.out]
  go_wp2_with (go_at_call 17; refine KH.out.mono ?_; rintro e w' ⟨rfl, rfl⟩)
  go_ret
  exact Gives.mk rfl HB.out
set_option maxHeartbeats 1000000 in
theorem loaded2_any (s : SetD) (hv : setOk s = true) (n : Int) (gs : Nat) (w : World) (hc : w.cell? ⟨gs, 0, none⟩ = some (.string s.name) ∧ w.cell? ⟨gs, 1, none⟩ = some (.int .i64 s.depth) ∧ w.cell? ⟨gs, 2, none⟩ = some (.int .i64 s.low) ∧ w.cell? ⟨gs, 3, none⟩ = some (.int .i64 s.high) ∧ w.cell? ⟨gs, 4, none⟩ = some (.int .i64 s.length) ∧ w.cell? ⟨gs, 5, none⟩ = some (.slice s.lines.A s.lines.l.length s.lines.cap) ∧ w.cell? ⟨gs, 6, none⟩ = some (.int .i64 s.pipe) ∧ w.cell? ⟨gs, 7, none⟩ = some (.int .i64 s.arbor) ∧ w.cell? ⟨gs, 8, none⟩ = some (.int .i64 s.purchase) ∧ w.cell? ⟨gs, 9, none⟩ = some (.int .i64 s.most) ∧ w.cell? ⟨gs, 10, none⟩ = some (.int .i64 s.brake) ∧ w.cell? ⟨gs, 11, none⟩ = some (.slice s.items.A s.items.l.length s.items.cap) ∧ w.cell? ⟨gs, 12, none⟩ = some (.slice s.bricks.A s.bricks.l.length s.bricks.cap)) : Calls Tryz.prog 23 #[.int .i64 n, .pointer (some ⟨gs, 0, none⟩)] w (Gives w (.bool (!heldE s n))) := by
  obtain ⟨-, -, -, -, hb, -⟩ := set_nums hv
  clear hv
  obtain ⟨r, hr⟩ : ∃ r, r = !heldE s n := ⟨_, rfl⟩
  rw [← hr]
  by_cases h1 : n < -s.brake
  · have HE := hide (show true = r by
      have h3 : ¬ -s.brake ≤ n := by omega
      rw [hr]; simp [heldE, h3])
    clear hr
    go_enter Tryz.func23, Tryz.ntmps23
    go_wp2_with fail
    go_ret
    exact Gives.mk (congrArg Value.bool HE.out) (Below.refl _ _)
  · have h1d : decide (n < -s.brake) = false := decide_eq_false h1
    by_cases h2 : s.brake < n
    · have HE := hide (show true = r by
        have h3 : ¬ n ≤ s.brake := by omega
        rw [hr]; simp [heldE, h3])
      clear hr
      go_enter Tryz.func23, Tryz.ntmps23
      go_wp2_with fail
      go_ret
      exact Gives.mk (congrArg Value.bool HE.out) (Below.refl _ _)
    · have HE := hide (show false = r by
        have h3 : n ≤ s.brake := by omega
        have h4 : -s.brake ≤ n := by omega
        rw [hr]; simp [heldE, h3, h4])
      clear hr
      go_enter Tryz.func23, Tryz.ntmps23
      go_wp2_with fail
      go_ret
      exact Gives.mk (congrArg Value.bool HE.out) (Below.refl _ _)
/-- some jobs are short: at most ten of them, and more that is not asked here -/
def ShortPost (w : World) (l : List JobD) (e : Ending) (w' : World) : Prop := Below w.heap.size w w' ∧ ∃ b : Bool, e = .returned (.bool b) ∧ (b = true → l.length ≤ 10)
set_option maxRecDepth 100000 in
set_option maxHeartbeats 2000000 in
theorem shortJobs_any (A : Option Addr) (cap : Nat) (l : List JobD) (w : World) (B : Nat) (hB : B ≤ w.heap.size) (hat : SlAt w B 3 JobD.cells ⟨A, cap, l⟩) :
    Calls Tryz.prog 6 #[.slice A l.length cap, .int .i64 10] w (ShortPost w l) := by
  have hm1 : l.length ≤ cap := hat.1
  have hm2 : cap ≤ 9223372036854775807 := hat.2.1
  have HAT := hide (hat.to (Below.refl _ _) hB)
  clear hat
  by_cases hn : 10 < (l.length : Int)
  · go_enter Tryz.func6, Tryz.ntmps6
    go_wp2_with fail
    go_ret
    exact ⟨Below.refl _ _, false, rfl, fun h => by cases h⟩
  · go_enter Tryz.func6, Tryz.ntmps6
    go_wp2_with fail
    go_loopw [5] (fun v wr => ∃ k : Nat, v = .int .i64 k ∧ k ≤ l.length ∧ wr = w) (fun v _ => l.length - (intOf v).toNat)
    case atStart => exact ⟨0, rfl, Nat.zero_le _, rfl⟩
    case round =>
      obtain ⟨k, rfl, hk, rfl⟩ := hrel
      by_cases hlt : k < l.length
      · obtain ⟨b, off, hA, hb, hcell⟩ := HAT.out.2.2 (show 0 < l.length by omega)
        simp only at hA
        subst hA
        obtain ⟨x, hx⟩ : ∃ x, l[k]? = some x := ⟨l[k], List.getElem?_eq_getElem hlt⟩
        have hc := JobD.elem hx hb hcell (After.refl _ _)
        simp only [After.refl] at hc
        have hk0 : (0 : Int) ≤ (k : Int) := by omega
        have hk1 : (k : Int) < (l.length : Int) := by omega
        clear hcell hx
        by_cases hs : 60 < x.name.size
        · go_wp2_with fail
          go_ret
          exact ⟨Below.refl _ _, false, rfl, fun h => by cases h⟩
        · go_wp2_with fail
          exact ⟨⟨k + 1, by go_num, by omega, by trivial⟩, by simp [intOf]; omega⟩
      · go_wp2_with fail
        go_ret
        exact ⟨Below.refl _ _, true, rfl, fun _ => by omega⟩
end Go.Proofs.YtcdkhlndohokcaaGreatDoor
namespace Go.Proofs.YtcdkhlndohokcaaGreatDoor
open Go Go.RowKit Go.Maps Go.Deep

def exTop (n : Nat) : SetD := { name := ⟨#[115]⟩, depth := 0, low := 0, high := 8000, length := 1000, lines := ⟨some ⟨n + 1, 0, none⟩, 2, [0, 1000]⟩, pipe := 60, arbor := 40, purchase := 1, most := 100, brake := 10, items := ⟨none, 0, []⟩, bricks := ⟨some ⟨n + 2, 0, none⟩, 1, [{ name := ⟨#[98]⟩, weight := 7, count := 2 }]⟩ }
theorem exTop_ok (n : Nat) : (exTop n).ok := by
  constructor
  case lines =>
    intro n hn
    simp [exTop] at hn
    rcases hn with rfl | rfl <;> simp [I64]
  case items => intro i hi; simp [exTop] at hi
  case bricks =>
    intro b hb
    simp [exTop] at hb
    subst hb
    constructor <;> simp [I64, maxLen, ByteArray.size]
  all_goals simp [exTop, I64, maxLen, ByteArray.size]
theorem exTop_valid (n : Nat) : setOk (exTop n) = true := by kernel_rfl
theorem exTop_bal (n : Nat) : balE (exTop n) = 6 := by kernel_rfl
theorem three_blocks (w : World) (o0 o1 o2 : Obj) : (((w.alloc o0).alloc o1).alloc o2).heap[w.heap.size + 1]? = some o1 ∧ (((w.alloc o0).alloc o1).alloc o2).heap[w.heap.size + 2]? = some o2 ∧ (((w.alloc o0).alloc o1).alloc o2).heap.size = w.heap.size + 3 ∧ Below w.heap.size w (((w.alloc o0).alloc o1).alloc o2) := by
  obtain ⟨W1, e1, s1, b1, h1⟩ := boxed w o0
  rw [← e1]
  obtain ⟨W2, e2, s2, b2, h2⟩ := boxed W1 o1
  rw [← e2]
  obtain ⟨W3, e3, s3, b3, h3⟩ := boxed W2 o2
  rw [← e3]
  refine ⟨?_, ?_, by omega, b1.trans ((b2.mono (by omega)).trans (b3.mono (by omega)))⟩
  · rw [← s1, b3.block _ (by omega)]; exact h2
  · rw [show w.heap.size + 2 = W2.heap.size by omega]; exact h3
set_option maxHeartbeats 1000000 in
theorem exTop_any (w : World) : Calls Tryz.prog 24 #[] w fun e w' => e = .returned (.agg #[.string (exTop w.heap.size).name, .int .i64 (exTop w.heap.size).depth, .int .i64 (exTop w.heap.size).low, .int .i64 (exTop w.heap.size).high, .int .i64 (exTop w.heap.size).length, .slice (exTop w.heap.size).lines.A (exTop w.heap.size).lines.l.length (exTop w.heap.size).lines.cap, .int .i64 (exTop w.heap.size).pipe, .int .i64 (exTop w.heap.size).arbor, .int .i64 (exTop w.heap.size).purchase, .int .i64 (exTop w.heap.size).most, .int .i64 (exTop w.heap.size).brake, .slice (exTop w.heap.size).items.A (exTop w.heap.size).items.l.length (exTop w.heap.size).items.cap, .slice (exTop w.heap.size).bricks.A (exTop w.heap.size).bricks.l.length (exTop w.heap.size).bricks.cap]) ∧ Below w.heap.size w w' ∧ SetD.at_ w' w'.heap.size (exTop w.heap.size) := by
  go_enter Tryz.func24, Tryz.ntmps24
  go_wp2
  obtain ⟨h1, h2, hs, hb⟩ := three_blocks w (.cells #[.string ⟨#[115]⟩, .int .i64 0, .int .i64 0, .int .i64 8000, .int .i64 1000, .slice (some ⟨w.heap.size + 1, 0, none⟩) 2 2, .int .i64 60, .int .i64 40, .int .i64 1, .int .i64 100, .int .i64 10, .slice none 0 0, .slice (some ⟨w.heap.size + 1 + 1, 0, none⟩) 1 1] 26)
    (.cells #[.int .i64 0, .int .i64 1000] 3) (.cells #[.string ⟨#[98]⟩, .int .i64 7, .int .i64 2] 65)
  refine bodyPost_ret (v := .agg #[.string (exTop w.heap.size).name, .int .i64 (exTop w.heap.size).depth, .int .i64 (exTop w.heap.size).low, .int .i64 (exTop w.heap.size).high, .int .i64 (exTop w.heap.size).length, .slice (exTop w.heap.size).lines.A (exTop w.heap.size).lines.l.length (exTop w.heap.size).lines.cap, .int .i64 (exTop w.heap.size).pipe, .int .i64 (exTop w.heap.size).arbor, .int .i64 (exTop w.heap.size).purchase, .int .i64 (exTop w.heap.size).most, .int .i64 (exTop w.heap.size).brake, .slice (exTop w.heap.size).items.A (exTop w.heap.size).items.l.length (exTop w.heap.size).items.cap, .slice (exTop w.heap.size).bricks.A (exTop w.heap.size).bricks.l.length (exTop w.heap.size).bricks.cap]) (by simp [results, Tryz.results24, go_sem, exTop]) rfl ⟨rfl, hb, ?_⟩
  exact ⟨SlAt.whole (fun _ => rfl) h1 rfl (by omega) (show 2 ≤ maxLen by decide), SlAt.nil, SlAt.whole (fun _ => rfl) h2 rfl (by omega) (show 1 ≤ maxLen by decide)⟩
def exJobs : List JobD := [⟨⟨#[97]⟩, false, 16⟩, ⟨⟨#[98]⟩, true, 18⟩]
theorem exJobs_ok : ∀ x ∈ exJobs, x.ok := by
  intro x hx
  simp [exJobs] at hx
  rcases hx with rfl | rfl <;> exact ⟨by simp [maxLen, ByteArray.size], by simp [I64]⟩
theorem exJobs_valid : jobsOk exJobs = true := by kernel_rfl
theorem exHeld (n : Nat) : (heldSt (exTop n) exJobs 0 = true ∧ heldSt (exTop n) exJobs 1 = true) ∧ heldSt (exTop n) exJobs 2 = false ∧ heldSt (exTop n) exJobs 3 = true := ⟨⟨by kernel_rfl, by kernel_rfl⟩, by kernel_rfl, by kernel_rfl⟩
theorem ex_lds {H : Nat → Bool} (h : (H 0 = true ∧ H 1 = true) ∧ H 2 = false ∧ H 3 = true) : Lds H 2 0 :=
  Lds.step (i := 0) h.1.1 (by decide) (by decide) (Lds.step (st := 1) (i := 1) h.1.2 (by decide) (by decide) (Lds.whole (n := 2) h.2.2))
theorem ex_safe {H : Nat → Bool} (h : (H 0 = true ∧ H 1 = true) ∧ H 2 = false ∧ H 3 = true) {o : List Nat} (hs : Safe H 2 0 o) : o = [0, 1] := by
  obtain ⟨z, hz⟩ : ∃ z, z = 0 := ⟨_, rfl⟩
  rw [← hz] at hs
  cases hs with
  | nil => exact absurd hz (by decide)
  | @cons _ i l hi hb hh hl =>
    subst hz
    have hi0 : i = 0 := by
      have : i = 0 ∨ i = 1 := by omega
      rcases this with e | e
      · exact e
      · subst e; rw [show 0 + 2 ^ 1 = 2 from rfl, h.2.1] at hh; cases hh
    subst hi0
    obtain ⟨z, hz⟩ : ∃ z, z = 0 + 2 ^ 0 := ⟨_, rfl⟩
    rw [← hz] at hl
    cases hl with
    | nil => exact absurd hz (by decide)
    | @cons _ j l hj hb2 hh2 hl2 =>
      subst hz
      have hj1 : j = 1 := by
        have : j = 0 ∨ j = 1 := by omega
        rcases this with e | e
        · subst e; exact absurd hb2 (by decide)
        · exact e
      subst hj1
      obtain ⟨z, hz⟩ : ∃ z, z = 0 + 2 ^ 0 + 2 ^ 1 := ⟨_, rfl⟩
      rw [← hz] at hl2
      cases hl2 with
      | nil => rfl
      | @cons _ k l hk hb3 hh3 hl3 =>
        subst hz
        have : k = 0 ∨ k = 1 := by omega
        rcases this with e | e <;> subst e <;> exact absurd hb3 (by decide)
def exTopHouse (n sb : Nat) : HouseD := { name := ⟨#[104]⟩, height := 8000, sets := ⟨some ⟨sb, 0, none⟩, 1, [exTop n]⟩, roofs := ⟨none, 0, []⟩ }
theorem exTopHouse_ok (n sb : Nat) : (exTopHouse n sb).ok := by
  refine ⟨by simp [exTopHouse, maxLen, ByteArray.size], by simp [exTopHouse, I64], fun s hs => ?_, fun r hr => by simp [exTopHouse] at hr⟩
  simp only [exTopHouse, List.mem_singleton] at hs
  subst hs
  exact exTop_ok n
theorem exTopHouse_valid (n sb : Nat) : houseOk (exTopHouse n sb) = true := by kernel_rfl
def noSheet : SheetD := ⟨⟨none, 0, []⟩, ⟨none, 0, []⟩⟩
theorem noSheet_ok : noSheet.ok := ⟨fun q hq => by simp [noSheet] at hq, fun p hp => by simp [noSheet] at hp⟩
theorem noSheet_b : sheetB noSheet = true := by kernel_rfl
theorem exTop_text (n sb : Nat) : textE (textP (exTopHouse n sb).pl noSheet.pl) = .tuple #[.string ⟨#[104, 111, 117, 115, 101, 32, 104, 32, 56, 48, 48, 48, 10, 115, 101, 116, 32, 115, 32, 48, 32, 48, 32, 56, 48, 48, 48, 32, 49, 48, 48, 48, 32, 54, 48, 32, 52, 48, 32, 49, 32, 49, 48, 48, 32, 49, 48, 32, 48, 32, 49, 48, 48, 48, 10, 98, 114, 105, 99, 107, 32, 98, 32, 55, 32, 50, 10]⟩, .int .i64 0] := by kernel_rfl
theorem exBal_any (n : Nat) (w : World) (hat : SetD.at_ w w.heap.size (exTop n)) : Calls Tryz.prog 21 #[.agg #[.string (exTop n).name, .int .i64 (exTop n).depth, .int .i64 (exTop n).low, .int .i64 (exTop n).high, .int .i64 (exTop n).length, .slice (exTop n).lines.A (exTop n).lines.l.length (exTop n).lines.cap, .int .i64 (exTop n).pipe, .int .i64 (exTop n).arbor, .int .i64 (exTop n).purchase, .int .i64 (exTop n).most, .int .i64 (exTop n).brake, .slice (exTop n).items.A (exTop n).items.l.length (exTop n).items.cap, .slice (exTop n).bricks.A (exTop n).bricks.l.length (exTop n).bricks.cap]] w (Gives w (.tuple #[.int .i64 6, .int .i64 0])) := by
  have h := balance_any (exTop n) (exTop_ok n) w w.heap.size (Nat.le_refl _) hat
  rw [numOr_yes (exTop_valid n), exTop_bal] at h
  exact h
/-- Order finds the one safe order -/
def ExOrd (w : World) (e : Ending) (w' : World) : Prop := Below w.heap.size w w' ∧ ∃ b off cap, e = .returned (.tuple #[.slice (some ⟨b, off, none⟩) 2 cap, .int .i64 0]) ∧ 2 ≤ cap ∧ cap ≤ maxLen ∧ ∀ j, j < [(0 : Int), 1].length → w'.cell? ⟨b, off + j, none⟩ = some (.int .i64 ([(0 : Int), 1].getD j 0))
theorem exOrd_any (n jb : Nat) (w : World) (hat : SetD.at_ w w.heap.size (exTop n)) (hj : SlAt w w.heap.size 3 JobD.cells ⟨some ⟨jb, 0, none⟩, 2, exJobs⟩) :
    Calls Tryz.prog 7 #[.agg #[.string (exTop n).name, .int .i64 (exTop n).depth, .int .i64 (exTop n).low, .int .i64 (exTop n).high, .int .i64 (exTop n).length, .slice (exTop n).lines.A (exTop n).lines.l.length (exTop n).lines.cap, .int .i64 (exTop n).pipe, .int .i64 (exTop n).arbor, .int .i64 (exTop n).purchase, .int .i64 (exTop n).most, .int .i64 (exTop n).brake, .slice (exTop n).items.A (exTop n).items.l.length (exTop n).items.cap, .slice (exTop n).bricks.A (exTop n).bricks.l.length (exTop n).bricks.cap], .slice (some ⟨jb, 0, none⟩) 2 2] w (ExOrd w) := by
  have h := order_any (exTop n) (exTop_ok n) (some ⟨jb, 0, none⟩) 2 exJobs exJobs_ok w w.heap.size (Nat.le_refl _) hat hj (by decide)
  refine h.mono ?_
  rintro e w' ⟨hb, S, k, rfl, hS, hk⟩
  rcases hk with ⟨rfl, -, -, o, ho, hs, -⟩ | ⟨rfl, -, -, -, hno⟩ | ⟨rfl, hvj, -⟩
  · have e1 := ex_safe (exHeld n) hs
    subst e1
    obtain ⟨A, cap, l⟩ := S
    have hl : l = [0, 1] := ho
    subst hl
    obtain ⟨b, off, hA, -, -⟩ := hS.2.2 (by simp)
    have hA : A = some ⟨b, off, none⟩ := hA
    subst hA
    exact ⟨hb, b, off, cap, rfl, hS.1, hS.2.1, row_cells hS (by simp)⟩
  · exact absurd (ex_lds (exHeld n)) hno
  · rw [exTop_valid, exJobs_valid] at hvj; cases hvj
theorem exText_any (n sb : Nat) (w : World) (ht : Tabs w) (hat : HouseD.at_ w w.heap.size (exTopHouse n sb)) :
    Calls Tryz.prog 25 #[.agg #[.string (exTopHouse n sb).name, .int .i64 (exTopHouse n sb).height, .slice (exTopHouse n sb).sets.A (exTopHouse n sb).sets.l.length (exTopHouse n sb).sets.cap, .slice (exTopHouse n sb).roofs.A (exTopHouse n sb).roofs.l.length (exTopHouse n sb).roofs.cap], .agg #[.slice none 0 0, .slice none 0 0]] w (Gives w (.tuple #[.string ⟨#[104, 111, 117, 115, 101, 32, 104, 32, 56, 48, 48, 48, 10, 115, 101, 116, 32, 115, 32, 48, 32, 48, 32, 56, 48, 48, 48, 32, 49, 48, 48, 48, 32, 54, 48, 32, 52, 48, 32, 49, 32, 49, 48, 48, 32, 49, 48, 32, 48, 32, 49, 48, 48, 48, 10, 98, 114, 105, 99, 107, 32, 98, 32, 55, 32, 50, 10]⟩, .int .i64 0])) := by
  have h := text_any (exTopHouse n sb) noSheet (exTopHouse_ok n sb) noSheet_ok (exTopHouse_valid n sb) noSheet_b (fun q hq => by simp [noSheet] at hq) w ht w.heap.size (Nat.le_refl _) hat ⟨SlAt.nil, fun q hq => by simp [noSheet] at hq, SlAt.nil⟩ 67 (by decide) (by kernel_rfl)
  rw [exTop_text] at h
  exact h
set_option maxRecDepth 100000 in
set_option maxHeartbeats 4000000 in
theorem awakeTop (w : World) (ht : Tabs w) : Calls Tryz.prog 4 #[] w (Gives w (.bool true)) := by
  have HT := hide ht
  clear ht
  go_enter Tryz.func4, Tryz.ntmps4
  go_upto_region 1 with fail
  go_upto_region 2 with (first
    | (go_at_call 24; refine (exTop_any w).mono ?_; rintro e w1 ⟨rfl, hb1, hat1⟩)
    | (go_at_call 21; refine (Gives.first (exBal_any _ w1 hat1)).mono ?_; rintro e w' ⟨rfl, y1, rfl⟩))
  have HB1 := hide (show Below w.heap.size w y1.val from hb1.trans (y1.below.mono hb1.size))
  obtain ⟨Y, hY, hYs, hYb, hYh⟩ := boxed y1.val (.cells #[.string ⟨#[97]⟩, .bool false, .int .i64 16, .string ⟨#[98]⟩, .bool true, .int .i64 18] 37 (0, 0))
  have HBY := hide (show Below w.heap.size w Y from HB1.out.trans (hYb.mono HB1.out.size))
  have HJ := hide (fun (x : World) (hb : Below Y.heap.size Y x) => (show SlAt x x.heap.size 3 JobD.cells ⟨some ⟨y1.val.heap.size, 0, none⟩, 2, exJobs⟩ from SlAt.whole jobCells_len ((hb.block _ (by omega)).trans hYh) rfl (by have := hb.size; omega) (show 2 ≤ maxLen by decide)))
  have HY := hide hY
  clear hb1 hat1 hY hYs hYb hYh
  go_upto_region 3 with fail
  rw [← HY.out]
  go_upto_region 4 with (first
    | (go_at_call 24; refine (exTop_any Y).mono ?_; rintro e w2 ⟨rfl, hb2, hat2⟩)
    | (go_at_call 7; refine (exOrd_any _ _ w2 hat2 (HJ.out w2 hb2)).mono ?_; rintro e w3 ⟨hb3, ob, oo, oc, rfl, hoc1, hoc2, hoc⟩))
  have HB3 := hide (show Below w.heap.size w w3 from HBY.out.trans ((hb2.trans (hb3.mono hb2.size)).mono HBY.out.size))
  have hob : ob < w3.heap.size := by
    have h := hoc 0 (by simp)
    rcases Nat.lt_or_ge ob w3.heap.size with h2 | h2
    · exact h2
    · unfold World.cell? at h; simp only [Array.getElem?_eq_none h2] at h; cases h
  clear hb2 hat2 hb3
  go_upto_region 5 with (go_at_call 24; refine (exTop_any w3).mono ?_; rintro e w4 ⟨rfl, hb4, hat4⟩)
  have hb34 := hb4.size
  obtain ⟨Z1, hZ1, hZ1s, hZ1b, hZ1h⟩ := boxed w4 (.cells #[.string (exTop w3.heap.size).name, .int .i64 (exTop w3.heap.size).depth, .int .i64 (exTop w3.heap.size).low, .int .i64 (exTop w3.heap.size).high, .int .i64 (exTop w3.heap.size).length, .slice (exTop w3.heap.size).lines.A (exTop w3.heap.size).lines.l.length (exTop w3.heap.size).lines.cap, .int .i64 (exTop w3.heap.size).pipe, .int .i64 (exTop w3.heap.size).arbor, .int .i64 (exTop w3.heap.size).purchase, .int .i64 (exTop w3.heap.size).most, .int .i64 (exTop w3.heap.size).brake, .slice (exTop w3.heap.size).items.A (exTop w3.heap.size).items.l.length (exTop w3.heap.size).items.cap, .slice (exTop w3.heap.size).bricks.A (exTop w3.heap.size).bricks.l.length (exTop w3.heap.size).bricks.cap] 26)
  obtain ⟨Z2, hZ2, hZ2s, hZ2b, hZ2h⟩ := boxed Z1 (.cells #[.string ⟨#[104]⟩, .int .i64 8000, .slice (some ⟨w4.heap.size, 0, none⟩) 1 1, .slice none 0 0] 54)
  have hb32 : Below w3.heap.size w3 Z2 := hb4.trans ((hZ1b.trans (hZ2b.mono hZ1b.size)).mono hb4.size)
  have hat : HouseD.at_ Z2 Z2.heap.size (exTopHouse w3.heap.size w4.heap.size) := by
    refine ⟨SlAt.whole (fun _ => rfl) ((hZ2b.block _ (by omega)).trans hZ1h) rfl (by omega) (show 1 ≤ maxLen by decide), fun s hs => ?_, SlAt.nil⟩
    simp only [exTopHouse, List.mem_singleton] at hs
    subst hs
    exact hat4.to (hZ1b.trans (hZ2b.mono hZ1b.size)) (by have := hZ1b.size; have := hZ2b.size; omega)
  have hcell : (Z2.cell? ⟨w4.heap.size + 1, 0, none⟩ = some (.string ⟨#[104]⟩) ∧ Z2.cell? ⟨w4.heap.size + 1, 0 + 1, none⟩ = some (.int .i64 8000)) ∧ Z2.cell? ⟨w4.heap.size + 1, 0 + 2, none⟩ = some (.slice (some ⟨w4.heap.size, 0, none⟩) 1 1) ∧ Z2.cell? ⟨w4.heap.size + 1, 0 + 3, none⟩ = some (.slice none 0 0) := by
    rw [← hZ1s]
    exact ⟨⟨Joins.cell_of_block hZ2h 0, Joins.cell_of_block hZ2h 1⟩, Joins.cell_of_block hZ2h 2, Joins.cell_of_block hZ2h 3⟩
  have KT := hide (Gives.first (exText_any w3.heap.size w4.heap.size Z2 (HT.out.below (HB3.out.trans (hb32.mono HB3.out.size))) hat))
  have HZ := hide (show (w4.alloc (.cells #[.string (exTop w3.heap.size).name, .int .i64 (exTop w3.heap.size).depth, .int .i64 (exTop w3.heap.size).low, .int .i64 (exTop w3.heap.size).high, .int .i64 (exTop w3.heap.size).length, .slice (exTop w3.heap.size).lines.A (exTop w3.heap.size).lines.l.length (exTop w3.heap.size).lines.cap, .int .i64 (exTop w3.heap.size).pipe, .int .i64 (exTop w3.heap.size).arbor, .int .i64 (exTop w3.heap.size).purchase, .int .i64 (exTop w3.heap.size).most, .int .i64 (exTop w3.heap.size).brake, .slice (exTop w3.heap.size).items.A (exTop w3.heap.size).items.l.length (exTop w3.heap.size).items.cap, .slice (exTop w3.heap.size).bricks.A (exTop w3.heap.size).bricks.l.length (exTop w3.heap.size).bricks.cap] 26)).alloc (.cells #[.string ⟨#[104]⟩, .int .i64 8000, .slice (some ⟨w4.heap.size, 0, none⟩) 1 1, .slice none 0 0] 54) = Z2 by rw [← hZ1, ← hZ2])
  have HB32 := hide hb32
  clear hZ1 hZ1s hZ1b hZ1h hZ2 hZ2s hZ2b hZ2h hat hb4 hat4 hb32 hb34
  rw [HZ.out]
  go_upto_region 6 with (go_at_call 25; refine KT.out.mono ?_; rintro e w' ⟨rfl, y5, rfl⟩)
  obtain ⟨U, hU, hUs, hUb, hUh⟩ := boxed y5.val (.cells #[.int .i64 0, .int .i64 1] 3 (0, 0))
  have hb3U : Below w3.heap.size w3 U := HB32.out.trans ((y5.below.trans (hUb.mono y5.size)).mono HB32.out.size)
  have KE := hide (Gives.first (equalRows (w := U) (b1 := ob) (o1 := oo) (c := oc) (b2 := y5.val.heap.size) (o2 := 0) (d := 2) [(0 : Int), 1] (by simp) (fun j hj => (hb3U.cell hob).trans (hoc j hj)) (fun j hj => by
    rw [Nat.zero_add, Joins.cell_of_block hUh]
    have : j = 0 ∨ j = 1 := by simp at hj; omega
    rcases this with rfl | rfl <;> rfl)))
  simp only [List.length_cons, List.length_nil, Nat.zero_add, Nat.reduceAdd] at KE
  have HE := hide (fun z : After U.heap.size U => (show Below w.heap.size w z.val from HB3.out.trans ((hb3U.trans (z.below.mono hb3U.size)).mono HB3.out.size)))
  have HU := hide hU
  clear hU hUs hUb hUh hb3U hcell hoc
  go_wp2_with (go_at_call 26; rw [← HU.out]; refine KE.out.mono ?_; rintro e w' ⟨rfl, z, rfl⟩)
  go_ret
  exact Gives.mk rfl (HE.out z)
end Go.Proofs.YtcdkhlndohokcaaGreatDoor
