/- batten.pipe, weight, Weight; arbor.Needed, there, Balance: what a set weighs and how it is balanced. A set of names as a map that the call makes: which names stand in it, its reading and its writing. brake.change, held, Valid: by how much a job changes the imbalance, whether one is held, whether jobs are valid. brake.Change, State (without further weights), Path. A row of ints that the call makes. brake.Path: the imbalances of jobs, one after the other. brake.Change of a valid set and a valid job; brake.First: the first imbalance that is not held. brake.Widest: the greatest absolute value of an imbalance, where all are held. -/
import Derived.Test.YtcdkhlndohokcaaGreatDoorLatTop
import Derived.Test.YtcdkhlndohokcaaGreatDoorHouseValid
import Derived.Deep.DeepCutAuto
import Derived.Deep.CutBlock
import Derived.Maps.OwnSet
import Derived.WalkKit
import Derived.Test.YtcdkhlndohokcaaGreatDoorNames
import Derived.Deep.AppendLies
import Derived.Lib.SmallJoins
import Derived.Test.YtcdkhlndohokcaaGreatDoorData
import Derived.Test.YtcdkhlndohokcaaGreatDoorOwn
import Derived.Test.YtcdkhlndohokcaaGreatDoorProg
import Derived.Lib.Hide
import Derived.Test.YtcdkhlndohokcaaGreatDoorShelf
namespace Go.Proofs.YtcdkhlndohokcaaGreatDoor
open Go Go.RowKit

theorem wrap_in {n : Int} (h : -9223372036854775808 ≤ n ∧ n ≤ 9223372036854775807) : IntKind.i64.wrap n = n := by rw [IntKind.wrap_i64]; omega
set_option maxHeartbeats 1000000 in
theorem pipe_any (s : SetD) (hv : setOk s = true) (w : World) : Calls Tryz.prog 103 #[.agg #[.string s.name, .int .i64 s.depth, .int .i64 s.low, .int .i64 s.high, .int .i64 s.length, .slice s.lines.A s.lines.l.length s.lines.cap, .int .i64 s.pipe, .int .i64 s.arbor, .int .i64 s.purchase, .int .i64 s.most, .int .i64 s.brake, .slice s.items.A s.items.l.length s.items.cap, .slice s.bricks.A s.bricks.l.length s.bricks.cap]] w (Gives w (.int .i64 (pipeE s))) := by
  obtain ⟨W, hW, hWs, hWb, hWh⟩ := boxed w (.cells #[.string s.name, .int .i64 s.depth, .int .i64 s.low, .int .i64 s.high, .int .i64 s.length, .slice s.lines.A s.lines.l.length s.lines.cap, .int .i64 s.pipe, .int .i64 s.arbor, .int .i64 s.purchase, .int .i64 s.most, .int .i64 s.brake, .slice s.items.A s.items.l.length s.items.cap, .slice s.bricks.A s.bricks.l.length s.bricks.cap] 26)
  have hc := SetD.boxed hWh (by omega) (After.refl W.heap.size W)
  simp only [After.refl] at hc
  obtain ⟨h1, h2, -⟩ := set_nums hv
  obtain ⟨-, -, -, -, h5, h6⟩ := bal_small hv
  have hpe : s.pipe * (s.length / 1000) = pipeE s := rfl
  have hl0 : 0 ≤ s.length := by omega
  have hl1 : s.length ≤ 1048576 := by omega
  have hwr : IntKind.i64.wrap (s.pipe * (s.length / 1000)) = s.pipe * (s.length / 1000) := wrap_in (by rw [hpe]; omega)
  have HPE := hide hpe
  have HW := hide hW
  have HWB := hide hWb
  clear hpe hW hWb hWh hv
  go_enter Tryz.func103, Tryz.ntmps103
  go_upto_region 1 with fail
  rw [← HW.out]
  go_wp2_with fail
  go_ret
  exact Gives.mk (congrArg (Value.int .i64) HPE.out) HWB.out
set_option maxRecDepth 100000 in
set_option maxHeartbeats 2000000 in
theorem weight_any (s : SetD) (hv : setOk s = true) (w : World) (B : Nat) (hB : B ≤ w.heap.size) (hat : SetD.at_ w B s) : Calls Tryz.prog 89 #[.agg #[.string s.name, .int .i64 s.depth, .int .i64 s.low, .int .i64 s.high, .int .i64 s.length, .slice s.lines.A s.lines.l.length s.lines.cap, .int .i64 s.pipe, .int .i64 s.arbor, .int .i64 s.purchase, .int .i64 s.most, .int .i64 s.brake, .slice s.items.A s.items.l.length s.items.cap, .slice s.bricks.A s.bricks.l.length s.bricks.cap]] w (Gives w (.int .i64 (weightE s))) := by
  obtain ⟨W, hW, hWs, hWb, hWh⟩ := boxed w (.cells #[.string s.name, .int .i64 s.depth, .int .i64 s.low, .int .i64 s.high, .int .i64 s.length, .slice s.lines.A s.lines.l.length s.lines.cap, .int .i64 s.pipe, .int .i64 s.arbor, .int .i64 s.purchase, .int .i64 s.most, .int .i64 s.brake, .slice s.items.A s.items.l.length s.items.cap, .slice s.bricks.A s.bricks.l.length s.bricks.cap] 26)
  have hc := fun y : After W.heap.size W => SetD.boxed hWh (by omega) y
  have hc0 := hc (After.refl _ _)
  simp only [After.refl] at hc0
  have hbd : ∀ y : After W.heap.size W, Below w.heap.size w y.val := fun y => hWb.trans (y.below.mono (by omega))
  have hat2 := hat.items.to (hWb.mono hB) (show B ≤ W.heap.size by omega)
  have HAT := hide hat2
  have KP := hide (Gives.first (pipe_any s hv W))
  obtain ⟨-, -, -, -, -, hn, -, hit, -⟩ := set_nums hv
  obtain ⟨-, -, hw0, hw1, hp0, hp1⟩ := bal_small hv
  have hm1 : s.items.l.length ≤ s.items.cap := hat.items.1
  have hm2 : s.items.cap ≤ 9223372036854775807 := hat.items.2.1
  have HIT := hide hit
  have HBD := hide hbd
  have HW := hide hW
  have HWE := hide (show weightE s = pipeE s + itemsE s.items.l from rfl)
  obtain ⟨pe, hpe⟩ : ∃ p, p = pipeE s := ⟨_, rfl⟩
  rw [← hpe] at KP HWE hp0 hp1
  obtain ⟨we, hwe⟩ : ∃ p, p = weightE s := ⟨_, rfl⟩
  rw [← hwe] at HWE ⊢
  clear hW hWh hWb hbd hat hat2 hit hpe hwe hv hw0 hw1 hWs
  obtain ⟨qn, qd, ql, qh, qe, ⟨qA, qc, qll⟩, qp, qr, qu, qm, qb, ⟨A, cap, l⟩, ⟨bA, bc, bl⟩⟩ := s
  simp only at *
  go_enter Tryz.func89, Tryz.ntmps89
  go_upto_region 1 with fail
  rw [← HW.out]
  go_wp2_with fail
  refine KP.out.mono ?_
  rintro e w' ⟨rfl, y, rfl⟩
  have hcy := hc y
  go_wp2_with fail
  go_loopw [3, 11] (fun v3 v wr => ∃ k : Nat, v = .int .i64 k ∧ v3 = .int .i64 (pe + itemsE (l.take k)) ∧ k ≤ l.length ∧ ∃ x : After W.heap.size W, wr = x.val) (fun _ v _ => l.length - (intOf v).toNat)
  case atStart => exact ⟨0, rfl, by simp [itemsE], Nat.zero_le _, y, rfl⟩
  case round =>
    obtain ⟨k, rfl, rfl, hk, x, rfl⟩ := hrel
    by_cases hlt : k < l.length
    · obtain ⟨b, off, hA, hb, hcell⟩ := HAT.out.2.2 (show 0 < l.length by omega)
      simp only at hA
      subst hA
      obtain ⟨q, hx⟩ : ∃ q, l[k]? = some q := ⟨l[k], List.getElem?_eq_getElem hlt⟩
      have he := ItemD.elem hx hb hcell x
      have hqw := HIT.out q (List.mem_of_getElem? hx)
      have ht := itemsE_take hx
      have hs := itemsE_small (l.take k) (fun y hy => HIT.out y (List.mem_of_mem_take hy))
      have hlen : (l.take k).length = k := by rw [List.length_take]; omega
      rw [hlen] at hs
      obtain ⟨sm, hsm⟩ : ∃ m, m = itemsE (l.take k) := ⟨_, rfl⟩
      rw [← hsm] at ht hs ⊢
      have HTK := hide ht
      obtain ⟨V, hV, hVs, hVb, hVh⟩ := boxed x.val (.cells #[.string q.name, .int .i64 q.place, .int .i64 q.width, .int .i64 q.weight, .int .i64 q.hang, .int .i64 q.front, .int .i64 q.back] 63)
      have hcV := ItemD.boxed (B := V.heap.size) hVh (by omega) (After.refl _ _)
      simp only [After.refl] at hcV
      have HV := hide hV
      have HBV := hide (show Below W.heap.size W V from x.below.trans (hVb.mono x.size))
      clear hcell hx ht hlen hsm hV hVb hVh hVs
      go_upto_region 5 with fail
      rw [← HV.out]
      go_wp2_with fail
      refine ⟨⟨k + 1, by go_num, ?_, by omega, ⟨V, HBV.out⟩, rfl⟩, by simp [intOf]; omega⟩
      rw [HTK.out]
      go_num
    · have HWF := hide (show pe + itemsE (l.take k) = we by rw [List.take_of_length_le (by omega), HWE.out])
      go_wp2_with fail
      go_ret
      exact Gives.mk (congrArg (Value.int .i64) HWF.out) (HBD.out x)
/-- a function of a set that gives a number, or an error if the set is not valid -/
def numOr (s : SetD) (n : Int) : Value := if setOk s = true then .tuple #[.int .i64 n, .int .i64 0] else .tuple #[.int .i64 0, .int .i64 1]
theorem numOr_yes {s : SetD} (h : setOk s = true) (n : Int) : numOr s n = .tuple #[.int .i64 n, .int .i64 0] := if_pos h
theorem numOr_no {s : SetD} (h : setOk s = false) (n : Int) : numOr s n = .tuple #[.int .i64 0, .int .i64 1] := if_neg (by rw [h]; simp)
set_option maxRecDepth 100000 in
set_option maxHeartbeats 2000000 in
theorem battenWeight_any (s : SetD) (hok : s.ok) (w : World) (B : Nat) (hB : B ≤ w.heap.size) (hat : SetD.at_ w B s) : Calls Tryz.prog 65 #[.agg #[.string s.name, .int .i64 s.depth, .int .i64 s.low, .int .i64 s.high, .int .i64 s.length, .slice s.lines.A s.lines.l.length s.lines.cap, .int .i64 s.pipe, .int .i64 s.arbor, .int .i64 s.purchase, .int .i64 s.most, .int .i64 s.brake, .slice s.items.A s.items.l.length s.items.cap, .slice s.bricks.A s.bricks.l.length s.bricks.cap]] w (Gives w (numOr s (weightE s))) := by
  obtain ⟨W, hW, hWs, hWb, hWh⟩ := boxed w (.cells #[.string s.name, .int .i64 s.depth, .int .i64 s.low, .int .i64 s.high, .int .i64 s.length, .slice s.lines.A s.lines.l.length s.lines.cap, .int .i64 s.pipe, .int .i64 s.arbor, .int .i64 s.purchase, .int .i64 s.most, .int .i64 s.brake, .slice s.items.A s.items.l.length s.items.cap, .slice s.bricks.A s.bricks.l.length s.bricks.cap] 26)
  have hc := fun y : After W.heap.size W => SetD.boxed hWh (by omega) y
  have hc0 := hc (After.refl _ _)
  simp only [After.refl] at hc0
  have hbd : ∀ y : After W.heap.size W, Below w.heap.size w y.val := fun y => hWb.trans (y.below.mono (by omega))
  have hat2 := hat.to (hWb.mono hB) (show B ≤ W.heap.size by omega)
  have KV := hide (Gives.first (battenValid_any s hok W W.heap.size (Nat.le_refl _) hat2))
  have HBD := hide hbd
  have HW := hide hW
  cases hv : setOk s
  · rw [hv] at KV
    rw [numOr_no hv]
    clear hW hWh hWb hbd hat hat2 hok hv
    go_enter Tryz.func65, Tryz.ntmps65
    go_upto_region 1 with fail
    rw [← HW.out]
    go_wp2_with (go_at_call 36; refine KV.out.mono ?_; rintro e w' ⟨rfl, y, rfl⟩)
    go_ret2
    exact Gives.mk rfl (HBD.out y)
  · have KW := hide (fun y : After W.heap.size W => Gives.after (x := y) (Nat.le_refl _) (weight_any s hv y.val W.heap.size y.size (hat2.to y.below (Nat.le_refl _))))
    rw [hv] at KV
    rw [numOr_yes hv]
    obtain ⟨n, hn⟩ : ∃ n, n = weightE s := ⟨_, rfl⟩
    rw [← hn] at KW ⊢
    clear hW hWh hWb hbd hat hat2 hok hv hn
    go_enter Tryz.func65, Tryz.ntmps65
    go_upto_region 1 with fail
    rw [← HW.out]
    go_wp2_with (first
      | (go_at_call 36; refine KV.out.mono ?_; rintro e w' ⟨rfl, y, rfl⟩; have hcy := hc y)
      | (go_at_call 89; refine (KW.out y).mono ?_; rintro e w' ⟨rfl, y2, rfl⟩))
    go_ret2
    exact Gives.mk rfl (HBD.out y2)
set_option maxRecDepth 100000 in
set_option maxHeartbeats 2000000 in
theorem needed_any (s : SetD) (hok : s.ok) (w : World) (B : Nat) (hB : B ≤ w.heap.size) (hat : SetD.at_ w B s) : Calls Tryz.prog 46 #[.agg #[.string s.name, .int .i64 s.depth, .int .i64 s.low, .int .i64 s.high, .int .i64 s.length, .slice s.lines.A s.lines.l.length s.lines.cap, .int .i64 s.pipe, .int .i64 s.arbor, .int .i64 s.purchase, .int .i64 s.most, .int .i64 s.brake, .slice s.items.A s.items.l.length s.items.cap, .slice s.bricks.A s.bricks.l.length s.bricks.cap]] w (Gives w (numOr s (neededE s))) := by
  obtain ⟨W, hW, hWs, hWb, hWh⟩ := boxed w (.cells #[.string s.name, .int .i64 s.depth, .int .i64 s.low, .int .i64 s.high, .int .i64 s.length, .slice s.lines.A s.lines.l.length s.lines.cap, .int .i64 s.pipe, .int .i64 s.arbor, .int .i64 s.purchase, .int .i64 s.most, .int .i64 s.brake, .slice s.items.A s.items.l.length s.items.cap, .slice s.bricks.A s.bricks.l.length s.bricks.cap] 26)
  have hc := fun y : After W.heap.size W => SetD.boxed hWh (by omega) y
  have hc0 := hc (After.refl _ _)
  simp only [After.refl] at hc0
  have hbd : ∀ y : After W.heap.size W, Below w.heap.size w y.val := fun y => hWb.trans (y.below.mono (by omega))
  have hat2 := hat.to (hWb.mono hB) (show B ≤ W.heap.size by omega)
  have KV := hide (Gives.first (battenWeight_any s hok W W.heap.size (Nat.le_refl _) hat2))
  have HBD := hide hbd
  have HW := hide hW
  cases hv : setOk s
  · rw [numOr_no hv] at KV
    rw [numOr_no hv]
    clear hW hWh hWb hbd hat hat2 hok hv
    go_enter Tryz.func46, Tryz.ntmps46
    go_upto_region 1 with fail
    rw [← HW.out]
    go_wp2_with (go_at_call 65; refine KV.out.mono ?_; rintro e w' ⟨rfl, y, rfl⟩)
    go_ret2
    exact Gives.mk rfl (HBD.out y)
  · obtain ⟨-, -, ha, hp, -⟩ := set_nums hv
    obtain ⟨-, -, hw0, hw1, -, -⟩ := bal_small hv
    rw [numOr_yes hv] at KV
    rw [numOr_yes hv]
    have hne : neededE s = weightE s * s.purchase - s.arbor := rfl
    obtain ⟨n, hn⟩ : ∃ n, n = weightE s := ⟨_, rfl⟩
    rw [← hn] at KV hne hw0 hw1
    have hw2 : 0 ≤ n * s.purchase := Int.mul_nonneg hw0 (by omega)
    have hw3 : n * s.purchase ≤ 1200000000 * 2 := Int.mul_le_mul hw1 hp.2 (by omega) (by omega)
    have hwr : IntKind.i64.wrap (n * s.purchase) = n * s.purchase := wrap_in (by omega)
    have HNE := hide hne.symm
    clear hW hWh hWb hbd hat hat2 hok hv hn hne
    go_enter Tryz.func46, Tryz.ntmps46
    go_upto_region 1 with fail
    rw [← HW.out]
    go_wp2_with (go_at_call 65; refine KV.out.mono ?_; rintro e w' ⟨rfl, y, rfl⟩; have hcy := hc y)
    go_ret2
    exact Gives.mk (show Value.tuple #[.int .i64 (n * s.purchase - s.arbor), .int .i64 0] = .tuple #[.int .i64 (neededE s), .int .i64 0] by rw [HNE.out]) (HBD.out y)
set_option maxRecDepth 100000 in
set_option maxHeartbeats 2000000 in
theorem there_any (s : SetD) (hv : setOk s = true) (w : World) (B : Nat) (hB : B ≤ w.heap.size) (hat : SetD.at_ w B s) : Calls Tryz.prog 47 #[.agg #[.string s.name, .int .i64 s.depth, .int .i64 s.low, .int .i64 s.high, .int .i64 s.length, .slice s.lines.A s.lines.l.length s.lines.cap, .int .i64 s.pipe, .int .i64 s.arbor, .int .i64 s.purchase, .int .i64 s.most, .int .i64 s.brake, .slice s.items.A s.items.l.length s.items.cap, .slice s.bricks.A s.bricks.l.length s.bricks.cap]] w (Gives w (.tuple #[.int .i64 (brickE s.bricks.l), .int .i64 (counts s.bricks.l)])) := by
  obtain ⟨W, hW, hWs, hWb, hWh⟩ := boxed w (.cells #[.string s.name, .int .i64 s.depth, .int .i64 s.low, .int .i64 s.high, .int .i64 s.length, .slice s.lines.A s.lines.l.length s.lines.cap, .int .i64 s.pipe, .int .i64 s.arbor, .int .i64 s.purchase, .int .i64 s.most, .int .i64 s.brake, .slice s.items.A s.items.l.length s.items.cap, .slice s.bricks.A s.bricks.l.length s.bricks.cap] 26)
  have hc := fun y : After W.heap.size W => SetD.boxed hWh (by omega) y
  have hc0 := hc (After.refl _ _)
  simp only [After.refl] at hc0
  have hbd : ∀ y : After W.heap.size W, Below w.heap.size w y.val := fun y => hWb.trans (y.below.mono (by omega))
  have hat2 := hat.bricks.to (hWb.mono hB) (show B ≤ W.heap.size by omega)
  have HAT := hide hat2
  obtain ⟨-, -, -, -, -, -, hn, -, hit⟩ := set_nums hv
  have hm1 : s.bricks.l.length ≤ s.bricks.cap := hat.bricks.1
  have hm2 : s.bricks.cap ≤ 9223372036854775807 := hat.bricks.2.1
  have HIT := hide hit
  have HBD := hide hbd
  have HW := hide hW
  obtain ⟨be, hbe⟩ : ∃ p, p = brickE s.bricks.l := ⟨_, rfl⟩
  obtain ⟨ce, hce⟩ : ∃ p, p = counts s.bricks.l := ⟨_, rfl⟩
  rw [← hbe, ← hce]
  have HBE := hide hbe
  have HCE := hide hce
  clear hW hWh hWb hbd hat hat2 hit hbe hce hv hWs
  obtain ⟨qn, qd, ql, qh, qe, ⟨qA, qc, qll⟩, qp, qr, qu, qm, qb, ⟨iA, ic, il⟩, ⟨A, cap, l⟩⟩ := s
  simp only at *
  go_enter Tryz.func47, Tryz.ntmps47
  go_upto_region 1 with fail
  rw [← HW.out]
  go_wp2_with fail
  go_loopw [2, 3, 9] (fun v2 v3 v wr => ∃ k : Nat, v = .int .i64 k ∧ v2 = .int .i64 (brickE (l.take k)) ∧ v3 = .int .i64 (counts (l.take k)) ∧ k ≤ l.length ∧ 0 ≤ counts (l.take k) ∧ counts (l.take k) ≤ 60 * k ∧ ∃ x : After W.heap.size W, wr = x.val) (fun _ _ v _ => l.length - (intOf v).toNat)
  case atStart => exact ⟨0, rfl, rfl, rfl, Nat.zero_le _, by simp [counts], by simp [counts], After.refl _ _, rfl⟩
  case round =>
    obtain ⟨k, rfl, rfl, rfl, hk, hc1, hc2, x, rfl⟩ := hrel
    by_cases hlt : k < l.length
    · obtain ⟨b, off, hA, hb, hcell⟩ := HAT.out.2.2 (show 0 < l.length by omega)
      simp only at hA
      subst hA
      obtain ⟨q, hx⟩ : ∃ q, l[k]? = some q := ⟨l[k], List.getElem?_eq_getElem hlt⟩
      have he := BrickD.elem hx hb hcell x
      obtain ⟨n1, n2, n3, n4⟩ := HIT.out q (List.mem_of_getElem? hx)
      have ht := brickE_take hx
      have htc := counts_take hx
      have hs := brickE_small (l.take k) (fun y hy => HIT.out y (List.mem_of_mem_take hy))
      have hlen : (l.take k).length = k := by rw [List.length_take]; omega
      rw [hlen] at hs
      obtain ⟨sm, hsm⟩ : ∃ m, m = brickE (l.take k) := ⟨_, rfl⟩
      obtain ⟨cm, hcm⟩ : ∃ m, m = counts (l.take k) := ⟨_, rfl⟩
      rw [← hsm] at ht hs ⊢
      rw [← hcm] at htc hc1 hc2 ⊢
      have HTK := hide ht
      have HTC := hide htc
      have p1 : 0 ≤ q.weight * q.count := Int.mul_nonneg (by omega) n3
      have p2 : q.weight * q.count ≤ 1048576 * 60 := Int.mul_le_mul n2 n4 n3 (by omega)
      have hwr : IntKind.i64.wrap (q.weight * q.count) = q.weight * q.count := wrap_in (by omega)
      obtain ⟨V, hV, hVs, hVb, hVh⟩ := boxed x.val (.cells #[.string q.name, .int .i64 q.weight, .int .i64 q.count] 65)
      have hcV := BrickD.boxed (B := V.heap.size) hVh (by omega) (After.refl _ _)
      simp only [After.refl] at hcV
      have HV := hide hV
      have HBV := hide (show Below W.heap.size W V from x.below.trans (hVb.mono x.size))
      clear hcell hx ht htc hlen hsm hcm hV hVb hVh hVs
      go_upto_region 4 with fail
      rw [← HV.out]
      go_wp2_with fail
      refine ⟨⟨k + 1, by go_num, ?_, ?_, by omega, ?_, ?_, ⟨V, HBV.out⟩, rfl⟩, by simp [intOf]; omega⟩
      · rw [HTK.out]
      · rw [HTC.out]
      · rw [HTC.out]; omega
      · rw [HTC.out]; omega
    · have h1 := HBE.out
      have h2 := HCE.out
      have HWF := hide (show brickE (l.take k) = be by rw [List.take_of_length_le (by omega), h1])
      have HWC := hide (show counts (l.take k) = ce by rw [List.take_of_length_le (by omega), h2])
      clear h1 h2
      go_wp2_with fail
      go_ret2
      exact Gives.mk (show Value.tuple #[.int .i64 (brickE (l.take k)), .int .i64 (counts (l.take k))] = .tuple #[.int .i64 be, .int .i64 ce] by rw [HWF.out, HWC.out]) (HBD.out x)
set_option maxRecDepth 100000 in
set_option maxHeartbeats 2000000 in
theorem balance_any (s : SetD) (hok : s.ok) (w : World) (B : Nat) (hB : B ≤ w.heap.size) (hat : SetD.at_ w B s) : Calls Tryz.prog 21 #[.agg #[.string s.name, .int .i64 s.depth, .int .i64 s.low, .int .i64 s.high, .int .i64 s.length, .slice s.lines.A s.lines.l.length s.lines.cap, .int .i64 s.pipe, .int .i64 s.arbor, .int .i64 s.purchase, .int .i64 s.most, .int .i64 s.brake, .slice s.items.A s.items.l.length s.items.cap, .slice s.bricks.A s.bricks.l.length s.bricks.cap]] w (Gives w (numOr s (balE s))) := by
  obtain ⟨W, hW, hWs, hWb, hWh⟩ := boxed w (.cells #[.string s.name, .int .i64 s.depth, .int .i64 s.low, .int .i64 s.high, .int .i64 s.length, .slice s.lines.A s.lines.l.length s.lines.cap, .int .i64 s.pipe, .int .i64 s.arbor, .int .i64 s.purchase, .int .i64 s.most, .int .i64 s.brake, .slice s.items.A s.items.l.length s.items.cap, .slice s.bricks.A s.bricks.l.length s.bricks.cap] 26)
  have hc := fun y : After W.heap.size W => SetD.boxed hWh (by omega) y
  have hc0 := hc (After.refl _ _)
  simp only [After.refl] at hc0
  have hbd : ∀ y : After W.heap.size W, Below w.heap.size w y.val := fun y => hWb.trans (y.below.mono (by omega))
  have hat2 := hat.to (hWb.mono hB) (show B ≤ W.heap.size by omega)
  have KV := hide (Gives.first (needed_any s hok W W.heap.size (Nat.le_refl _) hat2))
  have HBD := hide hbd
  have HW := hide hW
  cases hv : setOk s
  · rw [numOr_no hv] at KV
    rw [numOr_no hv]
    clear hW hWh hWb hbd hat hat2 hok hv
    go_enter Tryz.func21, Tryz.ntmps21
    go_upto_region 1 with fail
    rw [← HW.out]
    go_wp2_with (go_at_call 46; refine KV.out.mono ?_; rintro e w' ⟨rfl, y, rfl⟩)
    go_ret2
    exact Gives.mk rfl (HBD.out y)
  · have KT := hide (fun y : After W.heap.size W => Gives.after (x := y) (Nat.le_refl _) (there_any s hv y.val W.heap.size y.size (hat2.to y.below (Nat.le_refl _))))
    obtain ⟨hb0, hb1, -⟩ := bal_small hv
    obtain ⟨-, -, -, -, -, -, hbl, -, hit⟩ := set_nums hv
    have hbs := brickE_small _ hit
    rw [numOr_yes hv] at KV
    rw [numOr_yes hv]
    have hbe : balE s = neededE s - brickE s.bricks.l := rfl
    obtain ⟨n, hn⟩ : ∃ n, n = neededE s := ⟨_, rfl⟩
    obtain ⟨m, hm⟩ : ∃ m, m = brickE s.bricks.l := ⟨_, rfl⟩
    obtain ⟨c, hcc⟩ : ∃ m, m = counts s.bricks.l := ⟨_, rfl⟩
    rw [← hn, ← hm] at hbe
    rw [← hn] at KV
    rw [← hm, ← hcc] at KT
    rw [← hm] at hbs
    rw [hbe] at hb0 hb1
    have HBE := hide hbe.symm
    have hb2 : m ≤ 62914560 * 8 := by omega
    clear hW hWh hWb hbd hat hat2 hok hv hn hm hcc hbe hit
    go_enter Tryz.func21, Tryz.ntmps21
    go_upto_region 1 with fail
    rw [← HW.out]
    go_wp2_with (first
      | (go_at_call 46; refine KV.out.mono ?_; rintro e w' ⟨rfl, y, rfl⟩; have hcy := hc y)
      | (go_at_call 47; refine (KT.out y).mono ?_; rintro e w' ⟨rfl, y2, rfl⟩))
    go_ret2
    exact Gives.mk (show Value.tuple #[.int .i64 (n - m), .int .i64 0] = .tuple #[.int .i64 (balE s), .int .i64 0] by rw [HBE.out]) (HBD.out y2)
end Go.Proofs.YtcdkhlndohokcaaGreatDoor
namespace Go.Proofs.YtcdkhlndohokcaaGreatDoor
open Go.RowKit Go.Maps

theorem sameJ_iff {a b : ByteArray} : sameName a b = true ↔ a = b := ⟨fun h => bs_inj (by simpa [sameName, bs] using h), fun h => by subst h; simp [sameName]⟩
theorem sameName_refl (a : ByteArray) : sameName a a = true := sameJ_iff.2 rfl
theorem sameName_false {a b : ByteArray} : sameName a b = false ↔ a ≠ b := by rw [← Bool.not_eq_true, sameJ_iff]
theorem keyStr : Keyed Tryz.prog 9 := string_keyed Tryz.underlying9
def inNames (s : ByteArray) (xs : List ByteArray) : Bool := xs.any fun t => sameName t s
theorem inNames_cons (s t : ByteArray) (xs : List ByteArray) : inNames s (t :: xs) = (sameName t s || inNames s xs) := by simp [inNames]
/-- block b is a map of the names xs, each with true -/
def Seen (w : World) (b : Nat) (xs : List ByteArray) : Prop :=
  ∃ D : DataW Unit, w.ownsMap Tryz.prog 9 (plainElem Tryz.prog 4) b xs.length D ∧ ∀ (s : ByteArray) z, D.atKey (.string s.data.toList) z = if inNames s xs then .lit (.bool true) else z
theorem Seen.lt {w : World} {b : Nat} {xs : List ByteArray} (h : Seen w b xs) : b < w.heap.size := by obtain ⟨D, h1, _⟩ := h; exact h1.lt
theorem Seen.kept {w w' : World} {b : Nat} {xs : List ByteArray} (h : Seen w b xs) (hb : w'.heap[b]? = w.heap[b]?) : Seen w' b xs := by
  obtain ⟨D, ⟨es, clock, h1, h2⟩, h3⟩ := h
  exact ⟨D, ⟨es, clock, hb.trans h1, h2⟩, h3⟩
theorem Seen.below {w w' : World} {b : Nat} {xs : List ByteArray} (h : Seen w b xs) (hb : Below w.heap.size w w') : Seen w' b xs := h.kept (hb.block b h.lt)
theorem Seen.alloc {w : World} {b : Nat} {xs : List ByteArray} (h : Seen w b xs) (o : Obj) : Seen (w.alloc o) b xs := h.below ((Below.refl _ _).alloc (Nat.le_refl _) _)
set_option maxRecDepth 100000 in
theorem Seen.made (w : World) : Seen (w.alloc (.map #[] 0)) w.heap.size [] := ⟨.map [], World.ownsMap_made _ _ _ _, fun _ _ => rfl⟩
set_option maxRecDepth 100000 in
theorem bool_elem {v : Value} {b : Bool} {ps : List MemPlace} (h : plainElem (H := Unit) Tryz.prog 4 v = some (.lit (.bool b), ps)) : v = .bool b := by
  unfold plainElem at h
  rw [Tryz.underlying4] at h
  cases v <;> simp at h
  rw [h.1]
theorem Seen.lookup {w : World} {b : Nat} {xs : List ByteArray} (h : Seen w b xs) (s : ByteArray) (hs : s.size ≤ maxLen) : (Instr.lookup 104 (.map (some b)) (.string s) false).run Tryz.prog w = .ok (.bool (inNames s xs)) w := by
  obtain ⟨D, h1, h2⟩ := h
  obtain ⟨v, ps, hrun, hv⟩ := h1.lookup keyStr Tryz.underlying104 (show (zeroValue 4).run Tryz.prog w = .ok (.bool false) w by kernel_rfl) (plainElem_bool Tryz.underlying4 false) (WideMaps.keyOf_string_mk Tryz.underlying9 hs)
  rw [h2] at hv
  have e : v = .bool (inNames s xs) := by
    cases hm : inNames s xs
    · rw [hm, if_neg (by simp)] at hv; exact bool_elem hv
    · rw [hm, if_pos rfl] at hv; exact bool_elem hv
  rw [hrun, e]
theorem Seen.put {w' : World} {b : Nat} {xs : List ByteArray} {s : ByteArray} {D : DataW Unit} (h3 : ∀ (s : ByteArray) z, D.atKey (.string s.data.toList) z = if inNames s xs then .lit (.bool true) else z) (hD : IsMap D) (h1 : w'.ownsMap Tryz.prog 9 (plainElem Tryz.prog 4) b (xs.length + 1) (D.put (.string s.data.toList) (.lit (.bool true)))) : Seen w' b (s :: xs) := by
  refine ⟨_, h1, fun t z => ?_⟩
  by_cases e : t = s
  · subst e
    rw [atKey_put_same hD (by trivial), inNames_cons, sameName_refl]
    rfl
  · rw [atKey_put_other (fun h => e (by
      injection h with h
      cases t; cases s
      simp only [ByteArray.mk.injEq]
      exact Array.toList_inj.1 h)), h3, inNames_cons, sameName_false.2 (fun h => e h.symm)]
    rfl
/-- m[s] = true, at the operation -/
theorem wpList_seen {w : World} {ops : Array Oper} {rest : List Oper} {o : Oper} {a : Act} {Q : Exit → Act → World → Prop} {b : Nat} {xs : List ByteArray} (h : Seen w b xs) (s : ByteArray) (hs : s.size ≤ maxLen) (hn : xs.length < maxLen)
    (hg : o.guard = none) (m x v : Operand) (hop : o.op = Op.mapUpdate 104 m x v) (hm : a.eval m = .map (some b)) (hx : a.eval x = .string s) (hv : a.eval v = .bool true)
    (hK : ∀ w', Seen w' b (s :: xs) → w.grownBy w' (some b) → wpList Tryz.prog ops Q rest (a.put o.dst undef) w') : wpList Tryz.prog ops Q (o :: rest) a w := by
  obtain ⟨D, h1, h2⟩ := h
  exact wpList_mapUpdate_own w hg m x v 104 hop 9 4 keyStr Tryz.underlying104 (plainElem Tryz.prog 4) b xs.length D hm h1 hn (.string s) (.bool true) (.string s.data.toList) hx hv (WideMaps.keyOf_string_mk Tryz.underlying9 hs) (.lit (.bool true)) [] (plainElem_bool Tryz.underlying4 true) fun w' h' hg' => hK w' (Seen.put h2 h1.isMap h') hg'
end Go.Proofs.YtcdkhlndohokcaaGreatDoor
namespace Go.Proofs.YtcdkhlndohokcaaGreatDoor
open Go Go.RowKit Go.Maps

theorem wrap_ok {n : Int} (h : -9223372036854775808 ≤ n ∧ n ≤ 9223372036854775807) : IntKind.i64.wrap n = n := by rw [IntKind.wrap_i64]; omega
set_option maxHeartbeats 1000000 in
theorem change_any (s : SetD) (x : JobD) (hv : setOk s = true) (h1 : -1048576 ≤ x.weight) (h2 : x.weight ≤ 1048576) (w : World) : Calls Tryz.prog 35 #[.agg #[.string s.name, .int .i64 s.depth, .int .i64 s.low, .int .i64 s.high, .int .i64 s.length, .slice s.lines.A s.lines.l.length s.lines.cap, .int .i64 s.pipe, .int .i64 s.arbor, .int .i64 s.purchase, .int .i64 s.most, .int .i64 s.brake, .slice s.items.A s.items.l.length s.items.cap, .slice s.bricks.A s.bricks.l.length s.bricks.cap], .agg #[.string x.name, .bool x.pipe, .int .i64 x.weight]] w (Gives w (.int .i64 (chgE s x))) := by
  obtain ⟨W1, hW1, hs1, hb1, hh1⟩ := boxed w (.cells #[.string s.name, .int .i64 s.depth, .int .i64 s.low, .int .i64 s.high, .int .i64 s.length, .slice s.lines.A s.lines.l.length s.lines.cap, .int .i64 s.pipe, .int .i64 s.arbor, .int .i64 s.purchase, .int .i64 s.most, .int .i64 s.brake, .slice s.items.A s.items.l.length s.items.cap, .slice s.bricks.A s.bricks.l.length s.bricks.cap] 26)
  obtain ⟨W, hW2, hs2, hb2, hh2⟩ := boxed W1 (.cells #[.string x.name, .bool x.pipe, .int .i64 x.weight] 37)
  have hb : Below w.heap.size w W := hb1.trans (hb2.mono (by omega))
  have hh1' := (hb2.block _ (by omega)).trans hh1
  rw [hs1] at hh2
  have hc := And.intro (SetD.boxed hh1' (by omega) (After.refl W.heap.size W)) (JobD.boxed hh2 (by omega) (After.refl W.heap.size W))
  simp only [After.refl] at hc
  obtain ⟨-, -, -, hp, -⟩ := set_nums hv
  have hcs := chg_small hv h1 h2
  have HB := hide hb
  have HW := hide (show (w.alloc (.cells #[.string s.name, .int .i64 s.depth, .int .i64 s.low, .int .i64 s.high, .int .i64 s.length, .slice s.lines.A s.lines.l.length s.lines.cap, .int .i64 s.pipe, .int .i64 s.arbor, .int .i64 s.purchase, .int .i64 s.most, .int .i64 s.brake, .slice s.items.A s.items.l.length s.items.cap, .slice s.bricks.A s.bricks.l.length s.bricks.cap] 26)).alloc (.cells #[.string x.name, .bool x.pipe, .int .i64 x.weight] 37) = W by rw [← hW1, ← hW2])
  clear hW1 hW2 hb1 hb2 hh1 hh2 hh1' hb hv hs1 hs2
  unfold chgE at hcs ⊢
  obtain ⟨xn, xp, xw⟩ := x
  simp only at *
  cases xp
  · simp only [Bool.false_eq_true, if_false] at hcs ⊢
    go_enter Tryz.func35, Tryz.ntmps35
    go_upto_region 1 with fail
    rw [HW.out]
    go_wp2_with fail
    go_ret
    exact Gives.mk rfl HB.out
  · simp only [if_true] at hcs ⊢
    have hwr : IntKind.i64.wrap (s.purchase * xw) = s.purchase * xw := wrap_ok (by omega)
    go_enter Tryz.func35, Tryz.ntmps35
    go_upto_region 1 with fail
    rw [HW.out]
    go_wp2_with fail
    go_ret
    exact Gives.mk rfl HB.out
set_option maxHeartbeats 1000000 in
theorem held_any (s : SetD) (n : Int) (hv : setOk s = true) (w : World) : Calls Tryz.prog 40 #[.agg #[.string s.name, .int .i64 s.depth, .int .i64 s.low, .int .i64 s.high, .int .i64 s.length, .slice s.lines.A s.lines.l.length s.lines.cap, .int .i64 s.pipe, .int .i64 s.arbor, .int .i64 s.purchase, .int .i64 s.most, .int .i64 s.brake, .slice s.items.A s.items.l.length s.items.cap, .slice s.bricks.A s.bricks.l.length s.bricks.cap], .int .i64 n] w (Gives w (.bool (heldE s n))) := by
  obtain ⟨W, hW, hWs, hWb, hWh⟩ := boxed w (.cells #[.string s.name, .int .i64 s.depth, .int .i64 s.low, .int .i64 s.high, .int .i64 s.length, .slice s.lines.A s.lines.l.length s.lines.cap, .int .i64 s.pipe, .int .i64 s.arbor, .int .i64 s.purchase, .int .i64 s.most, .int .i64 s.brake, .slice s.items.A s.items.l.length s.items.cap, .slice s.bricks.A s.bricks.l.length s.bricks.cap] 26)
  have hc := SetD.boxed hWh (by omega) (After.refl W.heap.size W)
  simp only [After.refl] at hc
  obtain ⟨-, -, -, -, hb, -⟩ := set_nums hv
  have HB := hide hWb
  have HW := hide hW
  clear hW hWh hWb hv
  by_cases h1 : -s.brake ≤ n
  · by_cases h2 : n ≤ s.brake
    · have HE := hide (show true = heldE s n by simp [heldE, h1, h2])
      go_enter Tryz.func40, Tryz.ntmps40
      go_upto_region 1 with fail
      rw [← HW.out]
      go_wp2_with fail
      go_ret
      exact Gives.mk (congrArg Value.bool HE.out) HB.out
    · have HE := hide (show false = heldE s n by simp [heldE, h1, h2])
      go_enter Tryz.func40, Tryz.ntmps40
      go_upto_region 1 with fail
      rw [← HW.out]
      go_wp2_with fail
      go_ret
      exact Gives.mk (congrArg Value.bool HE.out) HB.out
  · have HE := hide (show false = heldE s n by simp [heldE, h1])
    go_enter Tryz.func40, Tryz.ntmps40
    go_upto_region 1 with fail
    rw [← HW.out]
    go_wp2_with fail
    go_ret
    exact Gives.mk (congrArg Value.bool HE.out) HB.out
theorem inNames_take {l : List JobD} {k : Nat} {x : JobD} : inNames x.name (((l.take k).map (·.name)).reverse) = (l.take k).any (fun y => sameName y.name x.name) := by
  unfold inNames
  rw [List.any_reverse, List.any_map]; rfl
set_option maxRecDepth 100000 in
set_option maxHeartbeats 4000000 in
theorem brakeValid_any (A : Option Addr) (cap : Nat) (l : List JobD) (hok : ∀ x ∈ l, x.ok) (w : World) (B : Nat) (hB : B ≤ w.heap.size) (hat : SlAt w B 3 JobD.cells ⟨A, cap, l⟩) : Calls Tryz.prog 34 #[.slice A l.length cap] w (Gives w (.bool (jobsOk l))) := by
  have hm1 : l.length ≤ cap := hat.1
  have hm2 : cap ≤ 9223372036854775807 := hat.2.1
  have HAT := hide (hat.to (Below.refl _ _) hB)
  have HOK := hide hok
  clear hat hok
  by_cases hn : 100 < (l.length : Int)
  · rw [jobsOk_long hn]
    go_enter Tryz.func34, Tryz.ntmps34
    go_wp2_with fail
    go_ret
    exact Gives.mk rfl (Below.refl _ _)
  have HNO := hide (fun (k : Nat) (x : JobD) (hx : l[k]? = some x) (h : jobAt l k x = false) => jobsOk_no hx h)
  have HYES := hide (fun (k : Nat) (hk : l.length ≤ k) (hu : UpTo (jobAt l) l k) => jobsOk_yes (l := l) (by omega) hk hu)
  obtain ⟨r, hr⟩ : ∃ r, r = jobsOk l := ⟨_, rfl⟩
  rw [← hr] at HNO HYES ⊢
  clear hr
  have HMK := hide (Seen.made w)
  have HBK := hide (show Below w.heap.size w (w.alloc (.map #[] 0)) from (Below.refl _ _).alloc (Nat.le_refl _) _)
  have hmm := @run_makeMap Tryz.prog
  go_enter Tryz.func34, Tryz.ntmps34
  go_wp2_with fail
  clear hmm
  go_loopw [12] (fun v wr => ∃ k : Nat, v = .int .i64 k ∧ k ≤ l.length ∧ Hid (UpTo (jobAt l) l k) ∧ Hid (Seen wr w.heap.size (((l.take k).map (·.name)).reverse)) ∧ Hid (Below w.heap.size w wr)) (fun v _ => l.length - (intOf v).toNat)
  case atStart => exact ⟨0, rfl, Nat.zero_le _, hide (UpTo.zero _ _), HMK, HBK⟩
  case round =>
    obtain ⟨k, rfl, hk, hall, hseen, hbel⟩ := hrel
    by_cases hlt : k < l.length
    · obtain ⟨b, off, hA, hb, hcell⟩ := HAT.out.2.2 (show 0 < l.length by omega)
      simp only at hA
      subst hA
      obtain ⟨x, hx⟩ : ∃ x, l[k]? = some x := ⟨l[k], List.getElem?_eq_getElem hlt⟩
      have he := JobD.elem hx hb hcell ⟨wr, hbel.out⟩
      simp only at he
      have hxo := HOK.out x (List.mem_of_getElem? hx)
      have hnm := hxo.name
      have hlen : (((l.take k).map (·.name)).reverse).length = k := by rw [List.length_reverse, List.length_map, List.length_take]; omega
      obtain ⟨V, hV, hVs, hVb, hVh⟩ := boxed wr (.cells #[.string x.name, .bool x.pipe, .int .i64 x.weight] 37)
      have hcV := fun y : After V.heap.size V => JobD.boxed hVh (by omega) y
      have hcV0 := hcV (After.refl _ _)
      simp only [After.refl] at hcV0
      have hsV : Seen V w.heap.size (((l.take k).map (·.name)).reverse) := by rw [hV]; exact hseen.out.alloc _
      have HSY := hide (fun y : After V.heap.size V => hsV.below y.below)
      have hlk := fun y : After V.heap.size V => (HSY.out y).lookup x.name hnm
      have HBV := hide (fun y : After V.heap.size V => (show Below w.heap.size w y.val from hbel.out.trans ((hVb.mono hbel.out.size).trans (y.below.mono (by have := hbel.out.size; omega)))))
      have HNX := hide (show ((l.take (k + 1)).map (·.name)).reverse = x.name :: ((l.take k).map (·.name)).reverse by rw [List.take_add_one, hx]; simp)
      have hin : inNames x.name (((l.take k).map (·.name)).reverse) = (l.take k).any (fun y => sameName y.name x.name) := inNames_take
      have HNO2 := hide (fun h => HNO.out k x hx h)
      have HX := hide hx
      have HIN := hide hin
      have HV := hide hV
      have hxs1 : (((l.take k).map (·.name)).reverse).length < maxLen := by rw [hlen]; unfold maxLen; omega
      have KN := hide (Gives.first (isName_any x.name V hnm))
      obtain ⟨xs, hxs⟩ : ∃ xs, xs = ((l.take k).map (·.name)).reverse := ⟨_, rfl⟩
      rw [← hxs] at HSY hlk HNX HIN hxs1
      clear hcell hx hxo hV hVb hVh hVs hsV hin hlen hxs hseen
      go_upto_region 7 with fail
      rw [← HV.out]
      cases g1 : isName x.name
      · rw [g1] at KN
        go_wp2_with (go_at_call 57; refine KN.out.mono ?_; rintro e w' ⟨rfl, y, rfl⟩)
        go_ret
        exact Gives.mk (congrArg Value.bool (HNO2.out (by simp [jobAt, jobFine, g1])).symm) (HBV.out y)
      rw [g1] at KN
      cases g2 : inNames x.name xs
      rotate_left
      · rw [g2] at hlk
        go_wp2_with (go_at_call 57; refine KN.out.mono ?_; rintro e w' ⟨rfl, y, rfl⟩; have hcy := hcV y; have hly := hlk y)
        go_ret
        exact Gives.mk (congrArg Value.bool (HNO2.out (by rw [jobAt, ← HIN.out, g2]; simp)).symm) (HBV.out y)
      rw [g2] at hlk
      by_cases g3 : x.weight < -1048576
      · go_wp2_with (go_at_call 57; refine KN.out.mono ?_; rintro e w' ⟨rfl, y, rfl⟩; have hcy := hcV y; have hly := hlk y)
        go_ret
        exact Gives.mk (congrArg Value.bool (HNO2.out (by
          have h3 : ¬ -1048576 ≤ x.weight := by omega
          simp [jobAt, jobFine, betweenB, h3])).symm) (HBV.out y)
      by_cases g4 : 1048576 < x.weight
      · go_wp2_with (go_at_call 57; refine KN.out.mono ?_; rintro e w' ⟨rfl, y, rfl⟩; have hcy := hcV y; have hly := hlk y)
        go_ret
        exact Gives.mk (congrArg Value.bool (HNO2.out (by
          have h3 : ¬ x.weight ≤ 1048576 := by omega
          simp [jobAt, jobFine, betweenB, h3])).symm) (HBV.out y)
      have HJ := hide (show jobAt l k x = true by
        have h3 : -1048576 ≤ x.weight := by omega
        have h4 : x.weight ≤ 1048576 := by omega
        rw [jobAt, ← HIN.out, g2]
        simp [jobFine, betweenB, g1, h3, h4])
      go_wp2_with (first
        | (go_at_call 57; refine KN.out.mono ?_; rintro e w' ⟨rfl, y, rfl⟩; have hcy := hcV y; have hly := hlk y)
        | (at_mapUpdate; refine wpList_seen (HSY.out y) x.name hnm hxs1 rfl _ _ _ rfl rfl rfl rfl ?_; intro w2 hs2 hg2))
      have hb2 := Below.grown (HBV.out y) hg2 (HBV.out y).size (fun j hj => by injection hj with hj; omega)
      exact ⟨⟨k + 1, by go_num, by omega, hide (hall.out.next HX.out HJ.out), hide (by rw [HNX.out]; exact hs2), hide hb2⟩, by simp [intOf]; omega⟩
    · have HYY := hide (HYES.out k (by omega) hall.out)
      go_wp2_with fail
      go_ret
      exact Gives.mk (congrArg Value.bool HYY.out.symm) hbel.out
end Go.Proofs.YtcdkhlndohokcaaGreatDoor
namespace Go.Proofs.YtcdkhlndohokcaaGreatDoor
open Go Go.RowKit Go.Maps

theorem enters_state1 : ∀ args w, (callFunc 73 args).run Tryz.prog w = .ok (.enter 73 args) w := entersOf Tryz.func73 (by kernel_rfl) rfl
theorem state1_zero (w : World) : Calls Tryz.prog 73 #[.int .i64 0] w (Gives w (.bool false)) := by
  go_enter Tryz.func73, Tryz.ntmps73
  go_wp2
  go_ret
  exact Gives.mk rfl (Below.refl _ _)
/-- numbers in a literal row -/
theorem ints_lit {W : World} {g : Nat} {t : TypeId} (l : List Int) (hl : l.length ≤ 1000) (h : W.heap[g]? = some (.cells (l.map (Value.int .i64)).toArray t (0, 0))) : SlAt W W.heap.size 1 intCells ⟨some ⟨g, 0, none⟩, l.length, l⟩ := by
  refine ⟨Nat.le_refl _, show l.length ≤ maxLen by unfold maxLen; omega, fun h0 => ⟨g, 0, rfl, (Array.getElem?_eq_some_iff.1 h).1, fun i x hx j u hu => ?_⟩⟩
  have hj : j = 0 := by
    have := (List.getElem?_eq_some_iff.1 hu).1
    simp [intCells] at this; omega
  subst hj
  have hu2 : u = .int .i64 x := by simpa [intCells] using hu.symm
  subst hu2
  refine (Joins.cell_of_block h _).trans ?_
  have hil := (List.getElem?_eq_some_iff.1 hx).1
  simp only [Nat.zero_add, Nat.mul_one, Nat.add_zero, List.getElem?_toArray, List.getElem?_map, hx]
  rfl
set_option maxRecDepth 100000 in
set_option maxHeartbeats 2000000 in
/-- State without further weights: the balance -/
theorem state_any (s : SetD) (hok : s.ok) (w : World) (B : Nat) (hB : B ≤ w.heap.size) (hat : SetD.at_ w B s) : Calls Tryz.prog 53 #[.agg #[.string s.name, .int .i64 s.depth, .int .i64 s.low, .int .i64 s.high, .int .i64 s.length, .slice s.lines.A s.lines.l.length s.lines.cap, .int .i64 s.pipe, .int .i64 s.arbor, .int .i64 s.purchase, .int .i64 s.most, .int .i64 s.brake, .slice s.items.A s.items.l.length s.items.cap, .slice s.bricks.A s.bricks.l.length s.bricks.cap], .int .i64 0, .int .i64 0] w (Gives w (numOr s (balE s))) := by
  obtain ⟨W, hW, hWs, hWb, hWh⟩ := boxed w (.cells #[.string s.name, .int .i64 s.depth, .int .i64 s.low, .int .i64 s.high, .int .i64 s.length, .slice s.lines.A s.lines.l.length s.lines.cap, .int .i64 s.pipe, .int .i64 s.arbor, .int .i64 s.purchase, .int .i64 s.most, .int .i64 s.brake, .slice s.items.A s.items.l.length s.items.cap, .slice s.bricks.A s.bricks.l.length s.bricks.cap] 26)
  have hc := fun y : After W.heap.size W => SetD.boxed hWh (by omega) y
  have hc0 := hc (After.refl _ _)
  simp only [After.refl] at hc0
  have hbd : ∀ y : After W.heap.size W, Below w.heap.size w y.val := fun y => hWb.trans (y.below.mono (by omega))
  have hat2 := hat.to (hWb.mono hB) (show B ≤ W.heap.size by omega)
  have KV := hide (Gives.first (balance_any s hok W W.heap.size (Nat.le_refl _) hat2))
  have HBD := hide hbd
  have HW := hide hW
  cases hv : setOk s
  · rw [numOr_no hv] at KV
    rw [numOr_no hv]
    clear hW hWh hWb hbd hat hat2 hok hv
    go_enter Tryz.func53, Tryz.ntmps53
    go_upto_region 1 with fail
    rw [← HW.out]
    go_wp2_with (go_at_call 21; refine KV.out.mono ?_; rintro e w' ⟨rfl, y, rfl⟩)
    go_ret2
    exact Gives.mk rfl (HBD.out y)
  · obtain ⟨hb0, hb1, -⟩ := bal_small hv
    obtain ⟨-, -, -, hp, -⟩ := set_nums hv
    rw [numOr_yes hv] at KV
    rw [numOr_yes hv]
    obtain ⟨n, hn⟩ : ∃ n, n = balE s := ⟨_, rfl⟩
    rw [← hn] at KV hb0 hb1 ⊢
    clear hW hWh hWb hbd hat hat2 hok hv hn hWs
    go_enter Tryz.func53, Tryz.ntmps53
    go_upto_region 1 with fail
    rw [← HW.out]
    go_upto_region 4 with (go_at_call 21; refine KV.out.mono ?_; rintro e w' ⟨rfl, y, rfl⟩; have hcy := hc y)
    obtain ⟨V, hV, hVs, hVb, hVh⟩ := boxed y.val (.cells #[.int .i64 0, .int .i64 0] 3 (0, 0))
    have KC := hide (Gives.first (containsInt_any (some ⟨y.val.heap.size, 0, none⟩) 2 [0, 0] (fun _ => false) _ #[] enters_state1 V V.heap.size (Nat.le_refl _) (ints_lit [0, 0] (by simp) hVh) (fun x e he => by
      have h0 : e = 0 := by
        obtain ⟨j, hj⟩ := List.getElem?_of_mem he
        match j, hj with
        | 0, hj => simpa using hj.symm
        | 1, hj => simpa using hj.symm
        | j + 2, hj => simp at hj
      subst h0
      exact state1_zero x.val)))
    have HBV := hide (fun z : After V.heap.size V => (show Below W.heap.size W z.val from y.below.trans ((hVb.mono y.size).trans (z.below.mono (by have := y.size; omega)))))
    have hcV := fun z : After V.heap.size V => hc ⟨z.val, HBV.out z⟩
    have HV := hide hV
    clear hV hVb hVh hVs
    go_wp2_with (go_at_call 22; rw [← HV.out]; refine KC.out.mono ?_; rintro e w' ⟨rfl, z, rfl⟩; have hcz := hcV z)
    go_ret2
    exact Gives.mk (by simp) (HBD.out ⟨z.val, HBV.out z⟩)
end Go.Proofs.YtcdkhlndohokcaaGreatDoor
namespace Go.Proofs.YtcdkhlndohokcaaGreatDoor
open Go Go.RowKit

theorem lit_own {x : World} {g base : Nat} {e : TypeId} (us : List Value) (h : x.heap[g]? = some (.cells us.toArray e (0, 0))) (hb : base ≤ g) (hn : us.length ≤ 1000) : x.ownsRow base e 1 (.slice (some ⟨g, 0, none⟩) us.length us.length) us.length us := by
  refine ⟨by simp, Or.inr ⟨g, us.length, us.toArray, rfl, hb, h, Nat.le_refl _, by unfold maxLen; omega, by simp, by simp⟩⟩
theorem ints_own {w : World} {base cap : Nat} {A : Option Addr} {l : List Int} (h : w.ownsRow base 3 1 (.slice A l.length cap) l.length (l.map (Value.int .i64))) : SlAt w w.heap.size 1 intCells ⟨A, cap, l⟩ := by
  rcases h.2 with ⟨h1, h2⟩ | ⟨g, c, cur, h1, h2, h3, h4, h5, h6, h7⟩
  · injection h1 with a b c
    have hl : l = [] := List.eq_nil_of_length_eq_zero h2
    subst hl a c
    exact ⟨Nat.le_refl _, Nat.zero_le _, fun h => absurd h (by simp)⟩
  · injection h1 with a b c'
    subst a
    subst c'
    refine ⟨h4, h5, fun _ => ⟨g, 0, rfl, (Array.getElem?_eq_some_iff.1 h3).1, fun i x hi j u hu => ?_⟩⟩
    have hj : j = 0 := by
      have := (List.getElem?_eq_some_iff.1 hu).1
      simp [intCells] at this; omega
    subst hj
    have hu2 : u = .int .i64 x := by simpa [intCells] using hu.symm
    subst hu2
    have hi2 : i < l.length := (List.getElem?_eq_some_iff.1 hi).1
    have h8 : (l.map (Value.int .i64))[i]? = some (.int .i64 x) := by rw [List.getElem?_map, hi]; rfl
    rw [← h7, List.getElem?_take] at h8
    rw [if_pos (by omega)] at h8
    rw [Nat.zero_add, Joins.cell_of_block h3, ← Array.getElem?_toList, Nat.mul_one, Nat.add_zero]
    exact h8
/-- a row of ints that is being made above W -/
def ISt (W : World) (v : Value) (l : List Int) (x : World) : Prop := x.ownsRow W.heap.size 3 1 v l.length (l.map (Value.int .i64)) ∧ Below W.heap.size W x
theorem ISt.to {W x y : World} {v : Value} {l : List Int} (h : ISt W v l x) (hb : Below x.heap.size x y) : ISt W v l y := ⟨own_below h.1 hb, h.2.trans (hb.mono h.2.size)⟩
theorem ISt.grow {W x y : World} {v : Value} {l : List Int} {g cap : Nat} {n : Int} (h : ISt W v l x) (hown : y.ownsRow W.heap.size 3 1 (.slice (some ⟨g, 0, none⟩) (l.length + 1) cap) (l.length + 1) (l.map (Value.int .i64) ++ [.int .i64 n])) (hg : x.grownBy y v.ownBlock) :
    ISt W (.slice (some ⟨g, 0, none⟩) (l.length + 1) cap) (l ++ [n]) y := by
  refine ⟨?_, Below.grown h.2 hg h.2.size (own_owner h.1)⟩
  rw [List.map_append, List.length_append]
  exact hown
theorem ISt.sl {W x : World} {v : Value} {l : List Int} (h : ISt W v l x) : ∃ S : Sl Int, v = .slice S.A S.l.length S.cap ∧ S.l = l ∧ SlAt x x.heap.size 1 intCells S := by
  rcases h.1.2 with ⟨e, h0⟩ | ⟨g, c, cur, e, _⟩
  · have hl : l = [] := List.eq_nil_of_length_eq_zero h0
    subst hl
    exact ⟨⟨none, 0, []⟩, e, rfl, Nat.le_refl _, Nat.zero_le _, fun h => absurd h (by simp)⟩
  · have h1 := h.1
    rw [e] at h1
    exact ⟨⟨some ⟨g, 0, none⟩, c, l⟩, e, rfl, ints_own h1⟩
theorem infoI : (Tryz.prog.info? 3).map (fun i => (i.zero, i.size, i.bytes)) = some (some (.int .i64 0), 1, 8) := by kernel_rfl
theorem infoI_parts : ∃ i, Tryz.prog.info? 3 = some i ∧ i.zero = some (.int .i64 0) ∧ i.size = 1 ∧ i.bytes = 8 := by
  have h := infoI
  cases hi : Tryz.prog.info? 3 with
  | none => rw [hi] at h; cases h
  | some i =>
    rw [hi] at h
    simp only [Option.map_some, Option.some.injEq, Prod.mk.injEq] at h
    exact ⟨i, rfl, h.1, h.2.1, h.2.2⟩
end Go.Proofs.YtcdkhlndohokcaaGreatDoor
namespace Go.Proofs.YtcdkhlndohokcaaGreatDoor
open Go Go.RowKit Go.Maps

theorem path_snoc (I : Int) : ∀ (cs : List Int) (c : Int), pathL I (cs ++ [c]) = pathL I cs ++ [I + cs.sum + c]
  | [], c => by simp [pathL]
  | d :: cs, c => by
    rw [List.cons_append, pathL, path_snoc (I + d) cs c, pathL, List.sum_cons, List.cons_append, show I + (d + cs.sum) + c = I + d + cs.sum + c by omega]
theorem sum_small {l : List Int} {K : Int} (h : ∀ x ∈ l, -K ≤ x ∧ x ≤ K) : -(K * l.length) ≤ l.sum ∧ l.sum ≤ K * l.length := by
  induction l with
  | nil => simp
  | cons a l ih =>
    have h1 := h a (by simp)
    have h2 := ih (fun x hx => h x (by simp [hx]))
    rw [List.sum_cons, List.length_cons]
    have e : K * ((l.length + 1 : Nat) : Int) = K * (l.length : Int) + K := by rw [Int.natCast_add, Int.mul_add]; simp
    rw [e]
    omega
/-- what Path gives -/
def pathE (s : SetD) (l : List JobD) : List Int × Int := if (setOk s && jobsOk l) = true then (pathL (balE s) (csE s l), 0) else ([], 1)
def PathPost (w : World) (x : List Int × Int) (e : Ending) (w' : World) : Prop :=
  Below w.heap.size w w' ∧ ∃ p : Sl Int, e = .returned (.tuple #[.slice p.A p.l.length p.cap, .int .i64 x.2]) ∧ SlAt w' w'.heap.size 1 intCells p ∧ p.l = x.1
theorem PathPost.nil {w w' : World} (h : Below w.heap.size w w') : PathPost w ([], 1) (.returned (.tuple #[.slice none 0 0, .int .i64 1])) w' := ⟨h, ⟨none, 0, []⟩, rfl, ⟨Nat.le_refl _, Nat.zero_le _, fun h => absurd h (by simp)⟩, rfl⟩
set_option maxRecDepth 100000 in
set_option maxHeartbeats 8000000 in
theorem path_any (s : SetD) (sok : s.ok) (A : Option Addr) (cap : Nat) (l : List JobD) (hok : ∀ x ∈ l, x.ok) (w : World) (B : Nat) (hB : B ≤ w.heap.size) (sat : SetD.at_ w B s) (hat : SlAt w B 3 JobD.cells ⟨A, cap, l⟩) :
    Calls Tryz.prog 11 #[.agg #[.string s.name, .int .i64 s.depth, .int .i64 s.low, .int .i64 s.high, .int .i64 s.length, .slice s.lines.A s.lines.l.length s.lines.cap, .int .i64 s.pipe, .int .i64 s.arbor, .int .i64 s.purchase, .int .i64 s.most, .int .i64 s.brake, .slice s.items.A s.items.l.length s.items.cap, .slice s.bricks.A s.bricks.l.length s.bricks.cap], .slice A l.length cap] w (PathPost w (pathE s l)) := by
  obtain ⟨W, hW, hWs, hWb, hWh⟩ := boxed w (.cells #[.string s.name, .int .i64 s.depth, .int .i64 s.low, .int .i64 s.high, .int .i64 s.length, .slice s.lines.A s.lines.l.length s.lines.cap, .int .i64 s.pipe, .int .i64 s.arbor, .int .i64 s.purchase, .int .i64 s.most, .int .i64 s.brake, .slice s.items.A s.items.l.length s.items.cap, .slice s.bricks.A s.bricks.l.length s.bricks.cap] 26)
  have hc := fun y : After W.heap.size W => SetD.boxed hWh (by omega) y
  have hc0 := hc (After.refl _ _)
  simp only [After.refl] at hc0
  have hbd : ∀ y : After W.heap.size W, Below w.heap.size w y.val := fun y => hWb.trans (y.below.mono (by omega))
  have sat2 := sat.to (hWb.mono hB) (show B ≤ W.heap.size by omega)
  have hat2 := hat.to (hWb.mono hB) (show B ≤ W.heap.size by omega)
  have hm1 : l.length ≤ cap := hat.1
  have hm2 : cap ≤ 9223372036854775807 := hat.2.1
  have KB := hide (Gives.first (balance_any s sok W W.heap.size (Nat.le_refl _) sat2))
  have KV := hide (fun y : After W.heap.size W => Gives.after (x := y) (Nat.le_refl _) (brakeValid_any A cap l hok y.val W.heap.size y.size (hat2.to y.below (Nat.le_refl _))))
  have HAT := hide hat2
  have HBD := hide hbd
  have HW := hide hW
  clear hW hWh hWb hbd sat sat2 hat hat2 hok sok hWs
  cases hv : setOk s
  · have hp : pathE s l = ([], 1) := by unfold pathE; rw [hv]; rfl
    rw [numOr_no hv] at KB
    rw [hp]
    clear hv hp KV
    go_enter Tryz.func11, Tryz.ntmps11
    go_upto_region 1 with fail
    rw [← HW.out]
    go_wp2_with (go_at_call 21; refine KB.out.mono ?_; rintro e w' ⟨rfl, y, rfl⟩)
    go_ret2
    exact PathPost.nil (HBD.out y)
  rw [numOr_yes hv] at KB
  cases hj : jobsOk l
  · have hp : pathE s l = ([], 1) := by unfold pathE; rw [hv, hj]; rfl
    rw [hj] at KV
    rw [hp]
    obtain ⟨n, hn⟩ : ∃ n, n = balE s := ⟨_, rfl⟩
    rw [← hn] at KB
    clear hv hp hj hn
    go_enter Tryz.func11, Tryz.ntmps11
    go_upto_region 1 with fail
    rw [← HW.out]
    go_wp2_with (first
      | (go_at_call 21; refine KB.out.mono ?_; rintro e w' ⟨rfl, y, rfl⟩; have hcy := hc y)
      | (go_at_call 34; refine (KV.out y).mono ?_; rintro e w' ⟨rfl, y2, rfl⟩))
    go_ret2
    exact PathPost.nil (HBD.out y2)
  · have hp : pathE s l = (pathL (balE s) (csE s l), 0) := by unfold pathE; rw [hv, hj]; rfl
    obtain ⟨hl100, hjn⟩ := job_nums hj
    obtain ⟨hb0, hb1, -⟩ := bal_small hv
    have hcs : ∀ x ∈ csE s l, -2097152 ≤ x ∧ x ≤ 2097152 := fun x hx => by
      obtain ⟨j, hjm, rfl⟩ := List.mem_map.1 hx
      exact chg_small hv (hjn j hjm).2.1 (hjn j hjm).2.2
    have HCS := hide hcs
    have KC := hide (fun (x : JobD) (hx : x ∈ l) (z : World) => (change_any s x hv (hjn x hx).2.1 (hjn x hx).2.2 z : Calls Tryz.prog 35 #[.agg #[.string s.name, .int .i64 s.depth, .int .i64 s.low, .int .i64 s.high, .int .i64 s.length, .slice s.lines.A s.lines.l.length s.lines.cap, .int .i64 s.pipe, .int .i64 s.arbor, .int .i64 s.purchase, .int .i64 s.most, .int .i64 s.brake, .slice s.items.A s.items.l.length s.items.cap, .slice s.bricks.A s.bricks.l.length s.bricks.cap], .agg #[.string x.name, .bool x.pipe, .int .i64 x.weight]] z (Gives z (.int .i64 (chgE s x)))))
    rw [hj] at KV
    rw [hp]
    obtain ⟨n, hn⟩ : ∃ n, n = balE s := ⟨_, rfl⟩
    rw [← hn] at KB hb0 hb1 ⊢
    obtain ⟨i0, hi0, hz0, hs0, hbb0⟩ := infoI_parts
    have HI0 := hide (And.intro hi0 (And.intro hz0 (And.intro hs0 hbb0)))
    have hcl : (csE s l).length = l.length := csE_len s l
    have HCL := hide hcl
    clear hv hp hj hn hi0 hz0 hs0 hbb0 hcs hcl hjn
    go_enter Tryz.func11, Tryz.ntmps11
    go_upto_region 1 with fail
    rw [← HW.out]
    go_upto_region 4 with (first
      | (go_at_call 21; refine KB.out.mono ?_; rintro e w' ⟨rfl, y, rfl⟩; have hcy := hc y)
      | (go_at_call 34; refine (KV.out y).mono ?_; rintro e w' ⟨rfl, y2, rfl⟩))
    have hst0 : ISt W (.slice (some ⟨y2.val.heap.size, 0, none⟩) 1 1) [n] (y2.val.alloc (.cells #[.int .i64 n] 3 (0, 0))) :=
      ⟨lit_own (x := y2.val.alloc (.cells #[.int .i64 n] 3 (0, 0))) (g := y2.val.heap.size) (base := W.heap.size) (e := 3) [.int .i64 n] (heap_alloc_new y2.val (.cells #[.int .i64 n] 3 (0, 0))) y2.size (by simp), y2.below.alloc y2.size _⟩
    have HST0 := hide hst0
    clear hst0 hcy
    go_wp2_with fail
    go_loopw [6, 8, 27] (fun v6 v8 v wr => ∃ k : Nat, v = .int .i64 k ∧ v6 = .int .i64 (n + ((csE s l).take k).sum) ∧ k ≤ l.length ∧ Hid (ISt W v8 (pathL n ((csE s l).take k)) wr)) (fun _ _ v _ => l.length - (intOf v).toNat)
    case atStart => exact ⟨0, rfl, by simp, Nat.zero_le _, HST0⟩
    case round =>
      obtain ⟨k, rfl, rfl, hk, hst⟩ := hrel
      have hcw := hc ⟨wr, hst.out.2⟩
      simp only at hcw
      by_cases hlt : k < l.length
      · obtain ⟨b, off, hA, hb, hcell⟩ := HAT.out.2.2 (show 0 < l.length by omega)
        simp only at hA
        subst hA
        obtain ⟨x, hx⟩ : ∃ x, l[k]? = some x := ⟨l[k], List.getElem?_eq_getElem hlt⟩
        have he := JobD.elem hx hb hcell ⟨wr, hst.out.2⟩
        simp only at he
        have hck : (csE s l)[k]? = some (chgE s x) := by unfold csE; rw [List.getElem?_map, hx]; rfl
        have htk : (csE s l).take (k + 1) = (csE s l).take k ++ [chgE s x] := by rw [List.take_add_one, hck]; rfl
        have hsm := sum_small (l := (csE s l).take k) (K := 2097152) (fun x hx => HCS.out x (List.mem_of_mem_take hx))
        rw [List.length_take, HCL.out] at hsm
        have hmin : ((min k l.length : Nat) : Int) ≤ 100 := by omega
        have hmin0 : (0 : Int) ≤ ((min k l.length : Nat) : Int) := by omega
        have hsm2 : -209715200 ≤ ((csE s l).take k).sum ∧ ((csE s l).take k).sum ≤ 209715200 := by omega
        have hchg := HCS.out _ (List.mem_of_getElem? hck)
        obtain ⟨S0, hS0⟩ : ∃ S0, S0 = ((csE s l).take k).sum := ⟨_, rfl⟩
        have hplen : (pathL n ((csE s l).take k)).length = k + 1 := by rw [pathL_len, List.length_take, HCL.out]; omega
        have hsnoc := path_snoc n ((csE s l).take k) (chgE s x)
        rw [← htk, ← hS0] at hsnoc
        have hsum : ((csE s l).take (k + 1)).sum = S0 + chgE s x := by rw [htk, List.sum_append, ← hS0]; simp
        rw [← hS0] at hsm2 ⊢
        obtain ⟨V, hV, hVs, hVb, hVh⟩ := boxed wr (.cells #[.string x.name, .bool x.pipe, .int .i64 x.weight] 37)
        have hcV := fun y : After V.heap.size V => JobD.boxed hVh (by omega) y
        have hcV0 := hcV (After.refl _ _)
        simp only [After.refl] at hcV0
        have hstV := hst.out.to hVb
        have hcV2 := hc ⟨V, hstV.2⟩
        simp only at hcV2
        have KCX := hide (Gives.first (KC.out x (List.mem_of_getElem? hx) V))
        obtain ⟨ch, hch⟩ : ∃ ch, ch = chgE s x := ⟨_, rfl⟩
        rw [← hch] at KCX hsnoc hsum hchg
        have HSN := hide hsnoc
        have HSUM := hide hsum
        have HSTV := hide hstV
        have HPL := hide hplen
        have HV := hide hV
        clear hcell hx hck htk hsm hmin hmin0 hplen hsnoc hsum hS0 hV hVb hVh hVs hstV hch hst
        go_upto_region 8 with fail
        rw [← HV.out]
        go_upto_region 9 with (go_at_call 35; refine KCX.out.mono ?_; rintro e w' ⟨rfl, z, rfl⟩)
        have hstz := HSTV.out.to z.below
        have hzs := hstz.2.size
        have hstX := hstz.to ((Below.refl _ _).alloc (Nat.le_refl _) (.cells #[.int .i64 (n + S0 + ch)] 3 (0, 0)))
        have hown := hstX.1
        rw [HPL.out] at hown
        have HOWN := hide hown
        have HSTX := hide hstX
        clear hstz hown hstX
        go_wp2_with (at_builtin; refine Hid.out ?_)
        refine Lib.hid ?_
        refine wpList_append_lies _ rfl _ _ 22 rfl W.heap.size 3 i0 (.int .i64 0) 1 8 Tryz.underlying22 HI0.out.1 HI0.out.2.1 HI0.out.2.2.1 HI0.out.2.2.2 rfl (by decide) _ (k + 1) _ rfl HOWN.out ⟨z.val.heap.size, 0, none⟩ 1 1 [.int .i64 (n + S0 + ch)] rfl rfl (World.news_of_block (heap_alloc_new z.val _)) (fun u hu => by simp at hu; subst hu; rfl) (by omega) (by unfold maxLen; omega) (by omega) (by simp; omega) (z.val.heap.size + 1) (by simp) ?_
        intro g4 cap4 w4 hown4 hgr4 hg4 _
        have hs4 : ISt W (.slice (some ⟨g4, 0, none⟩) (k + 1 + 1) cap4) (pathL n ((csE s l).take (k + 1))) w4 := by
          have h := HSTX.out.grow (g := g4) (cap := cap4) (n := n + S0 + ch) (by rw [HPL.out]; exact hown4) hgr4
          rw [HPL.out, ← HSN.out] at h
          exact h
        have HS4 := hide hs4
        clear hs4 hown4 hgr4 hg4
        go_wp2_with fail
        refine ⟨⟨k + 1, by go_num, ?_, by omega, HS4⟩, by simp [intOf]; omega⟩
        rw [HSUM.out]
        go_num
      · have hst2 : ISt W u8 (pathL n (csE s l)) wr := by
          have h := hst.out
          rwa [List.take_of_length_le (by rw [HCL.out]; omega)] at h
        obtain ⟨p, rfl, hpl, hpat⟩ := hst2.sl
        have HPP := hide (And.intro hpl hpat)
        have HBW := hide hst2.2
        clear hst hst2 hpl hpat
        go_wp2_with fail
        go_ret2
        exact ⟨HBD.out ⟨wr, HBW.out⟩, p, rfl, HPP.out.2, HPP.out.1⟩
end Go.Proofs.YtcdkhlndohokcaaGreatDoor
namespace Go.Proofs.YtcdkhlndohokcaaGreatDoor
open Go Go.RowKit Go.Maps

theorem jobs_one {x : JobD} (h : jobFine x = true) : jobsOk [x] = true := by
  unfold jobsOk allIdx allIdxFrom
  simp [jobAt, h, allIdxFrom]
set_option maxRecDepth 100000 in
set_option maxHeartbeats 2000000 in
theorem bigChange_any (s : SetD) (x : JobD) (sok : s.ok) (xok : x.ok) (hv : setOk s = true) (hx : jobFine x = true) (w : World) (B : Nat) (hB : B ≤ w.heap.size) (sat : SetD.at_ w B s) :
    Calls Tryz.prog 54 #[.agg #[.string s.name, .int .i64 s.depth, .int .i64 s.low, .int .i64 s.high, .int .i64 s.length, .slice s.lines.A s.lines.l.length s.lines.cap, .int .i64 s.pipe, .int .i64 s.arbor, .int .i64 s.purchase, .int .i64 s.most, .int .i64 s.brake, .slice s.items.A s.items.l.length s.items.cap, .slice s.bricks.A s.bricks.l.length s.bricks.cap], .agg #[.string x.name, .bool x.pipe, .int .i64 x.weight]] w (Gives w (.tuple #[.int .i64 (chgE s x), .int .i64 0])) := by
  obtain ⟨W1, hW1, hs1, hb1, hh1⟩ := boxed w (.cells #[.string s.name, .int .i64 s.depth, .int .i64 s.low, .int .i64 s.high, .int .i64 s.length, .slice s.lines.A s.lines.l.length s.lines.cap, .int .i64 s.pipe, .int .i64 s.arbor, .int .i64 s.purchase, .int .i64 s.most, .int .i64 s.brake, .slice s.items.A s.items.l.length s.items.cap, .slice s.bricks.A s.bricks.l.length s.bricks.cap] 26)
  obtain ⟨W, hW2, hs2, hb2, hh2⟩ := boxed W1 (.cells #[.string x.name, .bool x.pipe, .int .i64 x.weight] 37)
  have hb : Below w.heap.size w W := hb1.trans (hb2.mono (by omega))
  have hh1' := (hb2.block _ (by omega)).trans hh1
  rw [hs1] at hh2
  have hc := fun y : After W.heap.size W => And.intro (SetD.boxed hh1' (by omega) y) (JobD.boxed hh2 (by omega) y)
  have hc0 := hc (After.refl _ _)
  simp only [After.refl] at hc0
  have hbd : ∀ y : After W.heap.size W, Below w.heap.size w y.val := fun y => hb.trans (y.below.mono (by omega))
  have satW := sat.to (hb.mono hB) (show B ≤ W.heap.size by omega)
  have KV := hide (Gives.first (battenValid_any s sok W W.heap.size (Nat.le_refl _) satW))
  rw [hv] at KV
  have hfine := hx
  simp only [jobFine, betweenB, Bool.and_eq_true, decide_eq_true_eq] at hfine
  have KB := hide (fun (y : World) => (show Calls Tryz.prog 34 #[.slice (some ⟨y.heap.size, 0, none⟩) 1 1] (y.alloc (.cells #[.string x.name, .bool x.pipe, .int .i64 x.weight] 37 (0, 0))) (Gives (y.alloc (.cells #[.string x.name, .bool x.pipe, .int .i64 x.weight] 37 (0, 0))) (.bool true)) by
    have hn := heap_alloc_new y (.cells #[.string x.name, .bool x.pipe, .int .i64 x.weight] 37 (0, 0))
    have h := brakeValid_any (some ⟨y.heap.size, 0, none⟩) 1 [x] (fun z hz => by rw [List.mem_singleton.1 hz]; exact xok) (y.alloc (.cells #[.string x.name, .bool x.pipe, .int .i64 x.weight] 37 (0, 0))) _ (Nat.le_refl _) ⟨Nat.le_refl _, (by show 1 ≤ maxLen; unfold maxLen; decide), fun _ => ⟨y.heap.size, 0, rfl, (Array.getElem?_eq_some_iff.1 hn).1, fun i z hz j u hu => by
      have hi : i = 0 := by
        have := (List.getElem?_eq_some_iff.1 hz).1
        simp at this; omega
      subst hi
      have hzx : z = x := by simpa using hz.symm
      subst hzx
      rw [Nat.zero_mul, Nat.zero_add, Nat.zero_add]
      refine (Joins.cell_of_block hn j).trans ?_
      have hj := (List.getElem?_eq_some_iff.1 hu).1
      simp only [JobD.cells, List.length_cons, List.length_nil] at hj
      match j, hj with
      | 0, _ => simpa [JobD.cells] using hu
      | 1, _ => simpa [JobD.cells] using hu
      | 2, _ => simpa [JobD.cells] using hu⟩⟩
    rw [jobs_one hx] at h
    exact h))
  have KC := hide (fun y : After W.heap.size W => Gives.after (x := y) (Nat.le_refl _) (change_any s x hv hfine.2.1 hfine.2.2 y.val))
  obtain ⟨ch, hch⟩ : ∃ ch, ch = chgE s x := ⟨_, rfl⟩
  rw [← hch] at KC ⊢
  have HBD := hide hbd
  have HW := hide (show (w.alloc (.cells #[.string s.name, .int .i64 s.depth, .int .i64 s.low, .int .i64 s.high, .int .i64 s.length, .slice s.lines.A s.lines.l.length s.lines.cap, .int .i64 s.pipe, .int .i64 s.arbor, .int .i64 s.purchase, .int .i64 s.most, .int .i64 s.brake, .slice s.items.A s.items.l.length s.items.cap, .slice s.bricks.A s.bricks.l.length s.bricks.cap] 26)).alloc (.cells #[.string x.name, .bool x.pipe, .int .i64 x.weight] 37) = W by rw [← hW1, ← hW2])
  clear hW1 hW2 hb1 hb2 hh1 hh2 hh1' sat satW hb hbd sok xok hv hx hch hs1 hs2 hfine
  go_enter Tryz.func54, Tryz.ntmps54
  go_upto_region 1 with fail
  rw [HW.out]
  go_wp2_with (first
    | (go_at_call 36; refine KV.out.mono ?_; rintro e w' ⟨rfl, y, rfl⟩; have hcy := hc y)
    | (go_at_call 34; refine (KB.out y.val).mono ?_; rintro e w' ⟨rfl, hb2⟩; obtain ⟨z, rfl⟩ : ∃ z : After W.heap.size W, w' = z.val := ⟨⟨w', (y.below.alloc y.size _).trans (hb2.mono (y.below.alloc y.size _).size)⟩, rfl⟩; have hcz := hc z)
    | (go_at_call 35; refine (KC.out z).mono ?_; rintro e w' ⟨rfl, z2, rfl⟩))
  go_ret2
  exact Gives.mk rfl (HBD.out z2)
theorem enters_first1 : ∀ args w, (callFunc 39 args).run Tryz.prog w = .ok (.enter 39 args) w := entersOf Tryz.func39 (by kernel_rfl) rfl
set_option maxHeartbeats 1000000 in
theorem first1_any (s : SetD) (hv : setOk s = true) (n : Int) (gs : Nat) (w : World) (hc : w.cell? ⟨gs, 0, none⟩ = some (.string s.name) ∧ w.cell? ⟨gs, 1, none⟩ = some (.int .i64 s.depth) ∧ w.cell? ⟨gs, 2, none⟩ = some (.int .i64 s.low) ∧ w.cell? ⟨gs, 3, none⟩ = some (.int .i64 s.high) ∧ w.cell? ⟨gs, 4, none⟩ = some (.int .i64 s.length) ∧ w.cell? ⟨gs, 5, none⟩ = some (.slice s.lines.A s.lines.l.length s.lines.cap) ∧ w.cell? ⟨gs, 6, none⟩ = some (.int .i64 s.pipe) ∧ w.cell? ⟨gs, 7, none⟩ = some (.int .i64 s.arbor) ∧ w.cell? ⟨gs, 8, none⟩ = some (.int .i64 s.purchase) ∧ w.cell? ⟨gs, 9, none⟩ = some (.int .i64 s.most) ∧ w.cell? ⟨gs, 10, none⟩ = some (.int .i64 s.brake) ∧ w.cell? ⟨gs, 11, none⟩ = some (.slice s.items.A s.items.l.length s.items.cap) ∧ w.cell? ⟨gs, 12, none⟩ = some (.slice s.bricks.A s.bricks.l.length s.bricks.cap)) : Calls Tryz.prog 39 #[.int .i64 n, .pointer (some ⟨gs, 0, none⟩)] w (Gives w (.bool (!heldE s n))) := by
  have KH := hide (Gives.first (held_any s n hv w))
  obtain ⟨b, hb⟩ : ∃ b, b = heldE s n := ⟨_, rfl⟩
  rw [← hb] at KH ⊢
  clear hb hv
  go_enter Tryz.func39, Tryz.ntmps39
  go_wp2_with (go_at_call 40; refine KH.out.mono ?_; rintro e w' ⟨rfl, y, rfl⟩)
  go_ret
  exact Gives.mk rfl y.below
/-- what First gives -/
def firstV (s : SetD) (l : List JobD) : Value :=
  if (pathE s l).2 = 0 then (if idx (fun n => !heldE s n) (pathE s l).1 < 0 then .tuple #[.int .i64 0, .int .i64 12] else .tuple #[.int .i64 (idx (fun n => !heldE s n) (pathE s l).1), .int .i64 0])
  else .tuple #[.int .i64 0, .int .i64 1]
set_option maxRecDepth 100000 in
set_option maxHeartbeats 4000000 in
theorem first_any (s : SetD) (sok : s.ok) (A : Option Addr) (cap : Nat) (l : List JobD) (hok : ∀ x ∈ l, x.ok) (w : World) (B : Nat) (hB : B ≤ w.heap.size) (sat : SetD.at_ w B s) (hat : SlAt w B 3 JobD.cells ⟨A, cap, l⟩) :
    Calls Tryz.prog 13 #[.agg #[.string s.name, .int .i64 s.depth, .int .i64 s.low, .int .i64 s.high, .int .i64 s.length, .slice s.lines.A s.lines.l.length s.lines.cap, .int .i64 s.pipe, .int .i64 s.arbor, .int .i64 s.purchase, .int .i64 s.most, .int .i64 s.brake, .slice s.items.A s.items.l.length s.items.cap, .slice s.bricks.A s.bricks.l.length s.bricks.cap], .slice A l.length cap] w (Gives w (firstV s l)) := by
  obtain ⟨W, hW, hWs, hWb, hWh⟩ := boxed w (.cells #[.string s.name, .int .i64 s.depth, .int .i64 s.low, .int .i64 s.high, .int .i64 s.length, .slice s.lines.A s.lines.l.length s.lines.cap, .int .i64 s.pipe, .int .i64 s.arbor, .int .i64 s.purchase, .int .i64 s.most, .int .i64 s.brake, .slice s.items.A s.items.l.length s.items.cap, .slice s.bricks.A s.bricks.l.length s.bricks.cap] 26)
  have hc := fun y : After W.heap.size W => SetD.boxed hWh (by omega) y
  have hc0 := hc (After.refl _ _)
  simp only [After.refl] at hc0
  have hbd : ∀ y : After W.heap.size W, Below w.heap.size w y.val := fun y => hWb.trans (y.below.mono (by omega))
  have sat2 := sat.to (hWb.mono hB) (show B ≤ W.heap.size by omega)
  have hat2 := hat.to (hWb.mono hB) (show B ≤ W.heap.size by omega)
  have KP := hide (path_any s sok A cap l hok W W.heap.size (Nat.le_refl _) sat2 hat2)
  have hcase : (setOk s = true ∧ (pathE s l).2 = 0) ∨ pathE s l = ([], 1) := by
    unfold pathE
    cases hv : setOk s
    · exact Or.inr rfl
    · cases hj : jobsOk l
      · exact Or.inr rfl
      · exact Or.inl ⟨rfl, rfl⟩
  have HBD := hide hbd
  have HW := hide hW
  clear hW hWh hWb hbd sat sat2 hat hat2 hok sok hWs
  rcases hcase with ⟨hv, hp2⟩ | hp
  · obtain ⟨⟨P, k⟩, hPE⟩ : ∃ x, x = pathE s l := ⟨_, rfl⟩
    have hfv : firstV s l = if idx (fun n => !heldE s n) P < 0 then .tuple #[.int .i64 0, .int .i64 12] else .tuple #[.int .i64 (idx (fun n => !heldE s n) P), .int .i64 0] := by
      unfold firstV
      rw [← hPE] at hp2 ⊢
      rw [if_pos hp2]
    rw [← hPE] at KP hp2
    simp only at hp2
    subst hp2
    obtain ⟨FV, hFV⟩ : ∃ v, v = firstV s l := ⟨_, rfl⟩
    rw [← hFV]
    have HFV := hide (hFV.trans hfv)
    have K1 := hide (fun (n : Int) (y : After W.heap.size W) => first1_any s hv n w.heap.size y.val (hc y))
    clear hPE hfv hv hFV
    go_enter Tryz.func13, Tryz.ntmps13
    go_upto_region 1 with fail
    rw [← HW.out]
    go_upto_region 4 with (go_at_call 11; refine KP.out.mono ?_; rintro e w1 ⟨hb1, ⟨pA, pc, pl⟩, rfl, hpat, rfl⟩; simp only at hpat ⊢)
    have KX := hide (Gives.first (indexInt_any pA pc pl (fun n => !heldE s n) 39 #[.pointer (some ⟨w.heap.size, 0, none⟩)] enters_first1 w1 w1.heap.size (Nat.le_refl _) hpat (fun x e _ => K1.out e ⟨x.val, hb1.trans (x.below.mono hb1.size)⟩)))
    have HB1 := hide hb1
    obtain ⟨ix, hix⟩ : ∃ ix, ix = idx (fun n => !heldE s n) pl := ⟨_, rfl⟩
    rw [← hix] at KX
    have HFV2 := hide (show FV = if ix < 0 then .tuple #[.int .i64 0, .int .i64 12] else .tuple #[.int .i64 ix, .int .i64 0] by rw [HFV.out, hix])
    have hmf : ∀ (fn : Fn) (first cap : Array Value) (w : World), (Instr.makeFunc fn first cap).run Tryz.prog w = .ok (.func fn first cap) w := fun _ _ _ _ => rfl
    clear hix hpat hb1 HFV
    by_cases hneg : ix < 0
    · have HF3 := hide (HFV2.out.trans (if_pos hneg))
      go_wp2_with (go_at_call 38; refine KX.out.mono ?_; rintro e w' ⟨rfl, y, rfl⟩)
      go_ret2
      exact Gives.mk HF3.out.symm (HBD.out ⟨y.val, HB1.out.trans (y.below.mono HB1.out.size)⟩)
    · have HF3 := hide (HFV2.out.trans (if_neg hneg))
      go_wp2_with (go_at_call 38; refine KX.out.mono ?_; rintro e w' ⟨rfl, y, rfl⟩)
      go_ret2
      exact Gives.mk HF3.out.symm (HBD.out ⟨y.val, HB1.out.trans (y.below.mono HB1.out.size)⟩)
  · have hfv : firstV s l = .tuple #[.int .i64 0, .int .i64 1] := by
      unfold firstV; rw [hp]; rfl
    rw [hp] at KP
    rw [hfv]
    clear hp hfv
    go_enter Tryz.func13, Tryz.ntmps13
    go_upto_region 1 with fail
    rw [← HW.out]
    go_wp2_with (go_at_call 11; refine KP.out.mono ?_; rintro e w1 ⟨hb1, ⟨pA, pc, pl⟩, rfl, hpat, rfl⟩; simp only at hpat ⊢)
    go_ret2
    exact Gives.mk rfl (HBD.out ⟨w1, hb1⟩)
end Go.Proofs.YtcdkhlndohokcaaGreatDoor
namespace Go.Proofs.YtcdkhlndohokcaaGreatDoor
open Go Go.RowKit Go.Maps

theorem foldl_max_le {b : Int} : ∀ (zs : List Int) (a : Int), a ≤ b → (∀ x ∈ zs, x ≤ b) → zs.foldl max a ≤ b
  | [], _, ha, _ => ha
  | x :: zs, a, ha, h => foldl_max_le zs (max a x) (by have := h x (by simp); omega) (fun y hy => h y (by simp [hy]))
theorem foldl_min_ge {b : Int} : ∀ (zs : List Int) (a : Int), b ≤ a → (∀ x ∈ zs, b ≤ x) → b ≤ zs.foldl min a
  | [], _, ha, _ => ha
  | x :: zs, a, ha, h => foldl_min_ge zs (min a x) (by have := h x (by simp); omega) (fun y hy => h y (by simp [hy]))
theorem head_mem {zs : List Int} (h : zs ≠ []) : zs.headD 0 ∈ zs := by
  cases zs with
  | nil => exact absurd rfl h
  | cons a l => simp
theorem maxOf_le {zs : List Int} {b : Int} (hn : zs ≠ []) (h : ∀ x ∈ zs, x ≤ b) : Lib.maxOf zs ≤ b := foldl_max_le zs _ (h _ (head_mem hn)) h
theorem minOf_ge {zs : List Int} {b : Int} (hn : zs ≠ []) (h : ∀ x ∈ zs, b ≤ x) : b ≤ Lib.minOf zs := foldl_min_ge zs _ (h _ (head_mem hn)) h
theorem foldl_max_ge : ∀ (zs : List Int) (a : Int), a ≤ zs.foldl max a
  | [], _ => Int.le_refl _
  | x :: zs, a => Int.le_trans (by omega) (foldl_max_ge zs (max a x))
theorem foldl_min_le : ∀ (zs : List Int) (a : Int), zs.foldl min a ≤ a
  | [], _ => Int.le_refl _
  | x :: zs, a => Int.le_trans (foldl_min_le zs (min a x)) (by omega)
theorem maxOf_ge {zs : List Int} {b : Int} (hn : zs ≠ []) (h : ∀ x ∈ zs, b ≤ x) : b ≤ Lib.maxOf zs := Int.le_trans (h _ (head_mem hn)) (foldl_max_ge zs _)
theorem minOf_le {zs : List Int} {b : Int} (hn : zs ≠ []) (h : ∀ x ∈ zs, x ≤ b) : Lib.minOf zs ≤ b := Int.le_trans (foldl_min_le zs _) (h _ (head_mem hn))
/-- a readable row of ints that is not empty -/
theorem row_cells {w : World} {B b off : Nat} {cap : Nat} {l : List Int} (h : SlAt w B 1 intCells ⟨some ⟨b, off, none⟩, cap, l⟩) (hl : 0 < l.length) : ∀ j, j < l.length → w.cell? ⟨b, off + j, none⟩ = some (.int .i64 (l.getD j 0)) := fun j hj => by
  obtain ⟨b', off', e, -, hc⟩ := h.2.2 hl
  injection e with e
  injection e with e1 e2
  have h1 := hc j l[j] (List.getElem?_eq_getElem hj) 0 _ rfl
  rw [Nat.mul_one, Nat.add_zero] at h1
  rw [List.getD, List.getElem?_eq_getElem hj, e1, e2]
  exact h1
/-- what Widest gives where all imbalances are held -/
def WidePost (w : World) (s : SetD) (e : Ending) (w' : World) : Prop := Below w.heap.size w w' ∧ ∃ n : Int, e = .returned (.tuple #[.int .i64 n, .int .i64 0]) ∧ n ≤ s.brake
set_option maxRecDepth 100000 in
set_option maxHeartbeats 4000000 in
theorem widest_any (s : SetD) (sok : s.ok) (A : Option Addr) (cap : Nat) (l : List JobD) (hok : ∀ x ∈ l, x.ok) (w : World) (B : Nat) (hB : B ≤ w.heap.size) (sat : SetD.at_ w B s) (hat : SlAt w B 3 JobD.cells ⟨A, cap, l⟩) (hv : setOk s = true) (hj : jobsOk l = true)
    (hh : ∀ x ∈ pathL (balE s) (csE s l), heldE s x = true) :
    Calls Tryz.prog 14 #[.agg #[.string s.name, .int .i64 s.depth, .int .i64 s.low, .int .i64 s.high, .int .i64 s.length, .slice s.lines.A s.lines.l.length s.lines.cap, .int .i64 s.pipe, .int .i64 s.arbor, .int .i64 s.purchase, .int .i64 s.most, .int .i64 s.brake, .slice s.items.A s.items.l.length s.items.cap, .slice s.bricks.A s.bricks.l.length s.bricks.cap], .slice A l.length cap] w (WidePost w s) := by
  obtain ⟨W, hW, hWs, hWb, hWh⟩ := boxed w (.cells #[.string s.name, .int .i64 s.depth, .int .i64 s.low, .int .i64 s.high, .int .i64 s.length, .slice s.lines.A s.lines.l.length s.lines.cap, .int .i64 s.pipe, .int .i64 s.arbor, .int .i64 s.purchase, .int .i64 s.most, .int .i64 s.brake, .slice s.items.A s.items.l.length s.items.cap, .slice s.bricks.A s.bricks.l.length s.bricks.cap] 26)
  have hc := fun y : After W.heap.size W => SetD.boxed hWh (by omega) y
  have hc0 := hc (After.refl _ _)
  simp only [After.refl] at hc0
  have hbd : ∀ y : After W.heap.size W, Below w.heap.size w y.val := fun y => hWb.trans (y.below.mono (by omega))
  have sat2 := sat.to (hWb.mono hB) (show B ≤ W.heap.size by omega)
  have hat2 := hat.to (hWb.mono hB) (show B ≤ W.heap.size by omega)
  have hp : pathE s l = (pathL (balE s) (csE s l), 0) := by unfold pathE; rw [hv, hj]; rfl
  have KP := hide (path_any s sok A cap l hok W W.heap.size (Nat.le_refl _) sat2 hat2)
  rw [hp] at KP
  have hne : pathL (balE s) (csE s l) ≠ [] := by cases csE s l <;> simp [pathL]
  obtain ⟨-, -, -, -, ⟨hb0, hb1⟩, -⟩ := set_nums hv
  have hh2 : ∀ x ∈ pathL (balE s) (csE s l), -s.brake ≤ x ∧ x ≤ s.brake := fun x hx => by
    have := hh x hx
    simpa [heldE] using this
  obtain ⟨PL, hPL⟩ : ∃ p, p = pathL (balE s) (csE s l) := ⟨_, rfl⟩
  rw [← hPL] at KP hne hh2
  have hx1 := maxOf_le hne (fun x hx => (hh2 x hx).2)
  have hx2 := maxOf_ge hne (fun x hx => (hh2 x hx).1)
  have hx3 := minOf_ge hne (fun x hx => (hh2 x hx).1)
  have hx4 := minOf_le hne (fun x hx => (hh2 x hx).2)
  have HNE := hide hne
  have HBD := hide hbd
  have HW := hide hW
  clear hW hWh hWb hbd sat sat2 hat hat2 hok sok hWs hv hj hh hh2 hp hPL hne
  go_enter Tryz.func14, Tryz.ntmps14
  go_upto_region 1 with fail
  rw [← HW.out]
  go_upto_region 4 with (go_at_call 11; refine KP.out.mono ?_; rintro e w1 ⟨hb1', ⟨pA, pc, pl⟩, rfl, hpat, hpl⟩; simp only at hpat hpl ⊢)
  subst hpl
  have hlen : 0 < pl.length := List.length_pos_iff.2 HNE.out
  have hm1 : pl.length ≤ pc := hpat.1
  have hm2 : pc ≤ maxLen := hpat.2.1
  unfold maxLen at hm2
  obtain ⟨b, off, hA, -, -⟩ := hpat.2.2 hlen
  simp only at hA
  subst hA
  have hrow := row_cells hpat hlen
  have KM := hide (Tryz.slices_Max_int b off pl.length pc pl w1 hlen (Nat.le_refl _) (by omega) hrow)
  have KN := hide (Tryz.slices_Min_int b off pl.length pc pl w1 hlen (Nat.le_refl _) (by omega) hrow)
  rw [List.take_length] at KM KN
  obtain ⟨mx, hmx⟩ : ∃ m, m = Lib.maxOf pl := ⟨_, rfl⟩
  obtain ⟨mn, hmn⟩ : ∃ m, m = Lib.minOf pl := ⟨_, rfl⟩
  rw [← hmx] at KM hx1 hx2
  rw [← hmn] at KN hx3 hx4
  have HB1 := hide hb1'
  clear hrow hpat hmx hmn hb1'
  go_wp2_with (first
    | (go_at_call 41; refine KM.out.mono ?_; rintro e w' ⟨rfl, rfl⟩)
    | (go_at_call 42; refine KN.out.mono ?_; rintro e w' ⟨rfl, rfl⟩))
  go_ret2
  exact ⟨HBD.out ⟨_, HB1.out⟩, _, rfl, by omega⟩
end Go.Proofs.YtcdkhlndohokcaaGreatDoor
