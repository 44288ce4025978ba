/- bytes.Repeat of one byte; math/bits.Mul and bytes.Join by the shelf's contracts (laid by the shelf's own tool, in plain words). -/
import Derived.Shelf.Bits.Mul64
import Derived.Ground.SlbNamesProg
import Derived.Shelf.Bytes.SlJoin
import Derived.Deep.RegionLaw
import Derived.Deep.DrawnRows
import Derived.IntWalk
import Derived.Test.YtliehhnnfpkciaaDoorProg
import Derived.Test.YtliehhnnfpkciaaDoorData
namespace Go.Proofs.YtliehhnnfpkciaaDoor
open Go.RowKit Go.Shelf

def lays212_ren : Go.Shelf.Ren := ⟨fun | 212 => 80 | 263 => 109 | 264 => 110 | n => n, fun | 46 => 113 | 51 => 49 | 146 => 135 | 53 => 137 | 148 => 138 | n => n, fun | n => n⟩
theorem lays212 : Go.Proofs.Lays.n212 Tryd.prog lays212_ren := {
  mixed := by kernel_rfl
  f212 := Tryd.func80.trans (congrArg some (by kernel_rfl))
  f263 := Tryd.func109.trans (congrArg some (by kernel_rfl))
  f264 := Tryd.func110.trans (congrArg some (by kernel_rfl))
  t46 := Tryd.underlying113
  a46 := Tryd.isAgg113
  z46 := Tryd.sizeOf113
  v46 := Tryd.zeroValue113
  t51 := Tryd.underlying49
  a51 := Tryd.isAgg49
  z51 := Tryd.sizeOf49
  v51 := Tryd.zeroValue49
  t53 := Tryd.underlying137
  a53 := Tryd.isAgg137
  z53 := Tryd.sizeOf137
  v53 := Tryd.zeroValue137
  t146 := Tryd.underlying135
  a146 := Tryd.isAgg135
  z146 := Tryd.sizeOf135
  v146 := Tryd.zeroValue135
  t148 := Tryd.underlying138
  a148 := Tryd.isAgg138
  z148 := Tryd.sizeOf138
  v148 := Tryd.zeroValue138 }
theorem mul_any (x y : Nat) (hx : x < 18446744073709551616) (hy : y < 18446744073709551616) (w : World) :
    Calls Tryd.prog 80 #[.int .u64 x, .int .u64 y] w fun e w' => e = .returned (.tuple #[.int .u64 ((x * y / 18446744073709551616 : Nat) : Int), .int .u64 ((x * y % 18446744073709551616 : Nat) : Int)]) ∧ w' = w := Any.bits_Mul lays212 x y hx hy w
theorem mul_one (y : Nat) (hy : y ≤ 1000) (w : World) :
    Calls Tryd.prog 80 #[.int .u64 1, .int .u64 (y : Int)] w fun e w' => e = .returned (.tuple #[.int .u64 0, .int .u64 (y : Int)]) ∧ w = w' := by
  have h := mul_any 1 y (by omega) (by omega) w
  rw [Nat.one_mul, Nat.div_eq_of_lt (by omega), Nat.mod_eq_of_lt (by omega)] at h
  exact h.mono fun _ _ ⟨a, b⟩ => ⟨a, b.symm⟩
def laysSlJ14_ren : Go.Shelf.Ren := ⟨fun | 14 => 55 | 15 => 81 | n => n, fun | 26 => 67 | 22 => 56 | 3 => 3 | 4 => 4 | 0 => 0 | 9 => 9 | 20 => 20 | 5 => 5 | n => n, fun | n => n⟩
theorem laysSlJ14 : Go.Proofs.SlLaysJ.n14 Tryd.prog laysSlJ14_ren := {
  mixed := by kernel_rfl
  f14 := Tryd.func55.trans (congrArg some (by kernel_rfl))
  f15 := Tryd.func81.trans (congrArg some (by kernel_rfl))
  t0 := Tryd.underlying0
  a0 := Tryd.isAgg0
  z0 := Tryd.sizeOf0
  v0 := Tryd.zeroValue0
  t3 := Tryd.underlying3
  a3 := Tryd.isAgg3
  z3 := Tryd.sizeOf3
  v3 := Tryd.zeroValue3
  t4 := Tryd.underlying4
  a4 := Tryd.isAgg4
  z4 := Tryd.sizeOf4
  v4 := Tryd.zeroValue4
  t9 := Tryd.underlying9
  a9 := Tryd.isAgg9
  z9 := Tryd.sizeOf9
  v9 := Tryd.zeroValue9
  t20 := Tryd.underlying20
  a20 := Tryd.isAgg20
  z20 := Tryd.sizeOf20
  v20 := Tryd.zeroValue20
  t22 := Tryd.underlying56
  a22 := Tryd.isAgg56
  z22 := Tryd.sizeOf56
  v22 := Tryd.zeroValue56
  t26 := Tryd.underlying67
  a26 := Tryd.isAgg67
  z26 := Tryd.sizeOf67
  v26 := Tryd.zeroValue67
  t5 := Tryd.underlying5
  z5 := Tryd.sizeOf5
  i5 := by kernel_rfl }
theorem join_many (b o n c : Nat) (vs : List Value) (ls : List (List UInt8)) (sv : Value) (sep : List UInt8) (w : World) (hn : ls.length = n) (h2 : 2 ≤ n) (hP : Lib.PartsAt w ⟨b, o, none⟩ vs ls) (hcap : n ≤ c) (hS : Lib.HoldsBytes w sv sep) (hn47 : n ≤ 140737488355328) (hlen : Lib.lens ls + sep.length * (n - 1) ≤ 140737488355328) :
    Calls Tryd.prog 55 #[.slice (some ⟨b, o, none⟩) n c, sv] w fun e w' => ∃ v', e = .returned v' ∧ Lib.FreshBytes w.heap.size w' v' (Lib.join ls sep) ∧ Below w.heap.size w w' := Any.bytes_Join_many laysSlJ14 b o n c vs ls sv sep w hn h2 hP hcap hS hn47 hlen
theorem join_one (b o c : Nat) (ad0 : Addr) (c0 : Nat) (l0 : List UInt8) (sv : Value) (w : World) (hcell : w.cell? ⟨b, o, none⟩ = some (.slice (some ad0) l0.length c0)) (hc : ∀ (i : Nat) x, l0[i]? = some x → w.cell? (ad0.add i) = some (.int .u8 (x.toNat : Int))) (h0 : 0 < l0.length) (hs : l0.length ≤ 140737488355328) :
    Calls Tryd.prog 55 #[.slice (some ⟨b, o, none⟩) 1 c, sv] w fun e w' => ∃ v', e = .returned v' ∧ Lib.FreshBytes w.heap.size w' v' l0 ∧ Below w.heap.size w w' := Any.bytes_Join_one laysSlJ14 b o c ad0 c0 l0 sv w hcell hc h0 hs
theorem step_copy_run {P : Program} {ops : Array Oper} {o : Oper} {a : Act} {w : World} {K : Act → World → Prop} {Q : Exit → Act → World → Prop} {E : Prop} (hgd : o.guard = none) (d s : Operand) (t t' : TypeId)
    (ho : o.op = .call { callee := .builtin .copy, args := #[d, s], argTypes := #[t, t'] }) (v u : Value) (hd : a.eval d = v) (hs : a.eval s = u) {v' : Value} {w' : World}
    (hr : (Builtin.copy_ #[t, t'] o.type #[v, u]).run P w = .ok v' w') (h : K (a.put o.dst v') w') : if Region.wanted o (yielded ops a.tmps) = true then Oper.wp P o a w K Q else E := by
  have hw : Region.wanted o (yielded ops a.tmps) = true := by simp [Region.wanted, hgd]
  rw [if_pos hw]
  exact Lib.wp_copy_run w d s t t' ho v u hd hs hr h
theorem bufDrew {w0 wr : World} {h N : Nat} {acc : List UInt8} (hb : Lib.Buf w0 wr h N acc) : Lib.Buf w0 wr.drew h N acc := ⟨hb.below.drew, hb.there, hb.free, hb.holds, hb.fits⟩
/-- 'copy(b[bp:], b[:ch])' of a buffer whose filled part holds one byte again and again -/
theorem copy_self {P : Program} (w0 wr : World) (h N bp ch cc : Nat) (x : UInt8) (t ty e : TypeId) (hu : P.underlying t = some (.slice e)) (hs : (P.info? e).map (·.size) = some 1) (hb : Lib.Buf w0 wr h N (List.replicate bp x)) (hbp : bp < N) (hch : ch ≤ bp) :
    ∃ wr', (Builtin.copy_ #[t, t] ty #[Lib.tailV h N bp, .slice (some ⟨h, 0, none⟩) ch cc]).run P wr = .ok (.int .i64 ((Nat.min ch (N - bp) : Nat) : Int)) wr' ∧ Lib.Buf w0 wr' h N (List.replicate (bp + Nat.min ch (N - bp)) x) := by
  have hm1 : Nat.min ch (N - bp) ≤ ch := Nat.min_le_left _ _
  have hm2 : Nat.min ch (N - bp) ≤ N - bp := Nat.min_le_right _ _
  generalize hm : Nat.min ch (N - bp) = m at *
  have hr := run_copy_cells (P := P) wr t t ty e h bp (N - bp) (N - bp) ⟨h, 0, none⟩ ch cc (List.replicate m (Value.int .u8 (x.toNat : Int))) hu hs (by rw [List.length_replicate, hm])
    (fun j u hj => by
      rw [List.getElem?_replicate] at hj
      split at hj
      · injection hj with hj
        subst hj
        have := hb.holds j x (by rw [List.getElem?_replicate, if_pos (by omega)])
        simpa [Addr.add] using (by split <;> simp_all : wr.cell? (if j = 0 then (⟨h, 0, none⟩ : Addr) else ⟨h, j, none⟩) = some (.int .u8 (x.toNat : Int)))
      · cases hj)
    (fun j hj => by rw [List.length_replicate] at hj; exact hb.there _ (by omega)) (fun j hj => by rw [List.length_replicate] at hj; exact hb.free _ (by omega))
    (fun u hu' => by rw [List.mem_replicate] at hu'; rw [hu'.2]; rfl)
  rw [List.length_replicate] at hr
  refine ⟨_, by unfold Lib.tailV; rw [if_neg (by omega)]; exact hr, ?_⟩
  have hin := World.cell?_setCells_in h (List.replicate m (Value.int .u8 (x.toNat : Int))) bp wr (fun j hj => by rw [List.length_replicate] at hj; exact hb.there _ (by omega))
  have hout := World.cell?_setCells_out h (List.replicate m (Value.int .u8 (x.toNat : Int))) bp wr
  refine ⟨Lib.below_setCells h (Nat.le_refl _) _ _ hb.below, fun j hj => ?_, fun j hj => by rw [World.frozen?_setCells]; exact hb.free j hj, fun j y hy => ?_, by rw [List.length_replicate]; omega⟩
  · by_cases h1 : bp ≤ j ∧ j < bp + m
    · obtain ⟨d, rfl⟩ : ∃ d, j = bp + d := ⟨j - bp, by omega⟩
      rw [hin d (by rw [List.length_replicate]; omega)]
      rfl
    · rw [hout ⟨h, j, none⟩ (fun _ _ => by rw [List.length_replicate]; show j < _ ∨ _ ≤ j; omega)]
      exact hb.there j hj
  · rw [List.getElem?_replicate] at hy
    split at hy
    · injection hy with hy
      subst hy
      by_cases h1 : j < bp
      · rw [hout ⟨h, j, none⟩ (fun _ _ => Or.inl h1)]
        exact hb.holds j x (by rw [List.getElem?_replicate, if_pos h1])
      · obtain ⟨d, rfl⟩ : ∃ d, j = bp + d := ⟨j - bp, by omega⟩
        rw [hin d (by rw [List.length_replicate]; omega)]
        simp
    · cases hy
set_option maxHeartbeats 4000000 in
set_option maxRecDepth 100000 in
theorem repeat_any (x : UInt8) (a : Addr) (cap C : Nat) (hC1 : 1 ≤ C) (hC2 : C ≤ 400) (w : World) (hcell : w.cell? a = some (.int .u8 (x.toNat : Int))) :
    Calls Tryd.prog 51 #[.slice (some a) 1 cap, .int .i64 (C : Int)] w fun e w' => e = .returned (.slice (some ⟨w.heap.size, 0, none⟩) C C) ∧ Lib.Buf w w' w.heap.size C (List.replicate C x) := by
  have hc0 : ((C : Int) == 0) = false := by simp; omega
  have K1 := hide fun v => mul_one C (by omega) v
  have HH := hide hcell
  clear hcell
  have hbig : decide ((9223372036854775807 : Int) < (C : Int)) = false := by simp; omega
  have hneg : decide ((C : Int) < 0) = false := by simp
  have hchk : decide ((8192 : Int) < (C : Int)) = false := by simp; omega
  obtain ⟨cs, hrunM, hle, _⟩ := Lib.run_makeNoZero (P := Tryd.prog) w #[3] 56 5 Tryd.underlying56 C (by omega)
  have hcall : (callFunc 81 #[.int .i64 (C : Int)]).run Tryd.prog w = .ok (.value (.slice (some ⟨w.heap.size, 0, none⟩) C cs.size)) ((w.alloc (.cells cs 5)).drewN 2) := by
    rw [run_callFunc_extern Tryd.func81 (by kernel_rfl) (by kernel_rfl) (by kernel_rfl) (e := Extern.BytealgMakeNoZero.makeNoZero #[3] #[56]) (by kernel_rfl), hrunM]
    rfl
  clear hrunM
  have i0 : (0 : Int) ≤ (C : Int) := by omega
  have i1 : (C : Int) ≤ (cs.size : Int) := by omega
  have B0 := Lib.Buf.start w cs 5 C 2 hle
  have hs5 : (Tryd.prog.info? 5).map (·.size) = some 1 := by kernel_rfl
  have hhold : Lib.HoldsBytes w (.slice (some a) 1 cap) [x] := by
    refine ⟨some a, cap, rfl, fun h => by simp at h, fun a' ha' i y hy => ?_⟩
    have e : a' = a := (Option.some.inj ha').symm
    rw [e]
    match i, hy with
    | 0, hy =>
      have e2 : x = y := by simpa using hy
      rw [← e2]
      simpa [Addr.add] using HH.out
  obtain ⟨w1, hr1, B1⟩ := Lib.copy_part (P := Tryd.prog) w _ w.heap.size C [] [x] (.slice (some a) 1 cap) 56 3 5 Tryd.underlying56 hs5 (Nat.le_refl _) B0 hhold (by simp; omega)
  rw [List.length_nil, Lib.tailV_zero] at hr1
  rw [List.nil_append] at B1
  have HR1 := hide hr1
  have HB1 := hide (show Lib.Buf w w1 w.heap.size C (List.replicate 1 x) from B1)
  have HS5 := hide hs5
  clear B0 B1 hr1 hs5 hle
  go_enter Tryd.func51, Tryd.ntmps51
  go_wp2_with (first
    | (go_at_call 80; refine (K1.out _).mono ?_; rintro e w' ⟨rfl, rfl⟩)
    | ((with_reducible show wpList _ _ _ (Oper.mk (some 60) _ _ _ _ _ :: _) _ _); refine Lib.wpList_copy_run (o := ⟨some 60, _, _, _, _, _⟩) _ rfl (.tmp 58) (.tmp 59) 56 56 rfl _ _ rfl rfl HR1.out ?_))
  clear HR1 hcall
  clear hbig hneg hchk hc0 i1
  go_loopw [10, 11] (fun v _ wr => ∃ bp : Nat, v = .int .i64 bp ∧ 1 ≤ bp ∧ bp ≤ C ∧ Lib.Buf w wr w.heap.size C (List.replicate bp x)) (fun v _ _ => C - (intOf v).toNat)
  case atStart => exact ⟨1, by simp, by omega, by omega, HB1.out⟩
  case round =>
    obtain ⟨bp, rfl, hb1, hb2, hB⟩ := hrel
    have HB := hide hB
    clear hB HB1
    by_cases hlt : bp < C
    · have hsl1 : ∀ W, (Instr.slice 56 (.slice (some ⟨w.heap.size, 0, none⟩) C C) (some (.int .i64 (bp : Int))) none none).run Tryd.prog W = .ok (Lib.tailV w.heap.size C bp) W := fun W => Lib.run_slice_tailV W 56 5 Tryd.underlying56 (fun w => Tryd.sizeOf5 w) w.heap.size C bp (by omega)
      obtain ⟨w2, hr2, B2⟩ := copy_self (P := Tryd.prog) w wr.drew w.heap.size C bp bp C x 56 3 5 Tryd.underlying56 HS5.out (bufDrew HB.out) hlt (Nat.le_refl _)
      have hm1 : 1 ≤ Nat.min bp (C - bp) := by rw [Nat.le_min]; omega
      have hm2 : bp + Nat.min bp (C - bp) ≤ C := by have : Nat.min bp (C - bp) ≤ C - bp := Nat.min_le_right _ _; omega
      generalize Nat.min bp (C - bp) = m at *
      have HR2 := hide hr2
      have HB2 := hide B2
      clear hr2 B2
      have b0 : (0 : Int) ≤ (bp : Int) := by omega
      have hmin : min (bp : Int) (C : Int) = (bp : Int) := by omega
      have b1 : (bp : Int) ≤ (C : Int) := by omega
      go_wp2_with fail
      have hw : IntKind.i64.wrap ((bp : Int) + (m : Int)) = (bp : Int) + (m : Int) := IntWalk.i64_in _ (by omega)
      go_region_law ((refine step_copy_run (by rfl) (.tmp 70) (.tmp 73) 56 56 (by rfl) (Lib.tailV w.heap.size C bp) (.slice (some ⟨w.heap.size, 0, none⟩) bp C) (by go_simp) (by go_simp) HR2.out ?_))
      go_simp
      go_wp2
      exact ⟨⟨bp + m, by go_num, by omega, by omega, HB2.out⟩, by simp [intOf]; omega⟩
    · have e : bp = C := by omega
      subst e
      go_wp2
      go_ret
      exact ⟨rfl, HB.out⟩
end Go.Proofs.YtliehhnnfpkciaaDoor
