/- loftblocklaw32.lines at a picture: its rows, as strings in memory. -/
import Derived.Test.YtliehhnnfpkciaaDoorSecLaw
import Derived.Test.YtliehhnnfpkciaaDoorLinesLib
import Derived.Test.YtliehhnnfpkciaaDoorIndexStr
namespace Go.Proofs.YtliehhnnfpkciaaDoor
open Go.RowKit

theorem secByte_not10 (l : List SetD) (tr : List Int) (scale H : Int) (r c : Nat) : secByte l tr scale H r c ≠ 10 := fun e => by
  have h := secByte_toNat l tr scale H r c
  have h2 := secCell_sign l tr scale H r c
  rw [e] at h
  have : (10 : UInt8).toNat = 10 := rfl
  unfold SecSign at h2
  omega
theorem secRow_clean (l : List SetD) (tr : List Int) (scale H : Int) (r C : Nat) : ∀ b ∈ secRow l tr scale H r C, b ≠ 10 := fun b hb => by
  obtain ⟨c, _, rfl⟩ := List.mem_map.1 hb
  exact secByte_not10 l tr scale H r c
theorem secText_parts (l : List SetD) (tr : List Int) (scale H : Int) (C : Nat) : ∀ (R : Nat) (w : List UInt8), (∀ b ∈ w, b ≠ 10) → partsOf 10 (secText l tr scale H C R ++ w) = ((List.range R).map fun r => secRow l tr scale H r C) ++ [w]
  | 0, w, hw => by rw [secText, List.nil_append, partsOf_plain w hw]; rfl
  | R + 1, w, hw => by
    have e : secText l tr scale H C (R + 1) ++ w = (secText l tr scale H C R ++ secRow l tr scale H R C) ++ 10 :: w := by simp [secText]
    rw [e, partsOf_at, secText_parts l tr scale H C R _ (secRow_clean l tr scale H R C), partsOf_plain w hw, List.range_succ, List.map_append]
    simp
theorem secRow_get (l : List SetD) (tr : List Int) (scale H : Int) (r : Nat) {C c : Nat} (h : c < C) : (secRow l tr scale H r C)[c]? = some (secByte l tr scale H r c) := by
  simp [secRow, h]
/-- a row of the picture, as a string -/
def SecRowS (l : List SetD) (tr : List Int) (scale H : Int) (C r : Nat) (s : ByteArray) : Prop := bs s = secRow l tr scale H r C ∧ s.size = C ∧ ∀ c (h : c < s.size), s[c] = secByte l tr scale H r c
theorem secRowS_of {l : List SetD} {tr : List Int} {scale H : Int} {C r : Nat} {s : ByteArray} (h : bs s = secRow l tr scale H r C) : SecRowS l tr scale H C r s := by
  have hz : s.size = C := by rw [← bs_length, h, secRow_length]
  refine ⟨h, hz, fun c hc => ?_⟩
  have h4 := bs_get s c hc
  rw [h, secRow_get l tr scale H r (by omega)] at h4
  injection h4 with h4
  exact h4.symm
/-- the rows in memory -/
def SecRowsIn (w : World) (B g : Nat) (l : List SetD) (tr : List Int) (scale H : Int) (R C : Nat) : Prop := g < B ∧ ∀ r, r < R → ∃ s : ByteArray, w.cell? ⟨g, r, none⟩ = some (.string s) ∧ SecRowS l tr scale H C r s
theorem SecRowsIn.row {w : World} {B g : Nat} {l : List SetD} {tr : List Int} {scale H : Int} {R C r : Nat} (h : SecRowsIn w B g l tr scale H R C) (hr : r < R) : ∃ s : ByteArray, (∀ z : After B w, z.val.cell? ⟨g, r, none⟩ = some (.string s)) ∧ SecRowS l tr scale H C r s := by
  obtain ⟨s, h1, h2⟩ := h.2 r hr
  exact ⟨s, fun z => z.cell h1 h.1, h2⟩
theorem SecRowsIn.to {w w' : World} {B B' g : Nat} {l : List SetD} {tr : List Int} {scale H : Int} {R C : Nat} (h : SecRowsIn w B g l tr scale H R C) (hb : Below B w w') (hB : B ≤ B') : SecRowsIn w' B' g l tr scale H R C :=
  ⟨Nat.lt_of_lt_of_le h.1 hB, fun r hr => by
    obtain ⟨s, h1, h2⟩ := h.2 r hr
    exact ⟨s, (hb.cell (p := ⟨g, r, none⟩) h.1).trans h1, h2⟩⟩
theorem enters_lines1 : ∀ args w, (callFunc 57 args).run Tryd.prog w = .ok (.enter 57 args) w := entersOf Tryd.func57 (by kernel_rfl) rfl
def longB (C : Nat) (s : ByteArray) : Bool := decide (s.size ≠ C)
set_option maxHeartbeats 400000 in
theorem lines1_any (s : ByteArray) (C : Nat) (b : Addr) (w : World) (h1 : w.cell? b = some (.int .i64 (C : Int))) :
    Calls Tryd.prog 57 #[.string s, .pointer (some b)] w (Gives w (.bool (longB C s))) := by
  by_cases g1 : s.size = C
  · have e : longB C s = false := by simp [longB, g1]
    have g : ((s.size : Int) != (C : Int)) = false := by simp [g1]
    rw [e]
    clear g1 e
    go_enter Tryd.func57, Tryd.ntmps57
    go_wp2
    go_ret
    exact Gives.mk rfl (Below.refl _ _)
  · have e : longB C s = true := by simp [longB, g1]
    have g : ((s.size : Int) != (C : Int)) = true := by simp; omega
    rw [e]
    clear g1 e
    go_enter Tryd.func57, Tryd.ntmps57
    go_wp2
    go_ret
    exact Gives.mk rfl (Below.refl _ _)
/-- the rows of a picture that has the size that is asked for -/
def RowsGiven (w : World) (l : List SetD) (tr : List Int) (scale H : Int) (R C : Nat) (e : Ending) (w' : World) : Prop :=
  ∃ g, e = .returned (.tuple #[.slice (some ⟨g, 0, none⟩) R (R + 1), .bool true]) ∧ SecRowsIn w' w'.heap.size g l tr scale H R C ∧ Below w.heap.size w w'
set_option maxHeartbeats 2000000 in
theorem secLines_any (l : List SetD) (tr : List Int) (scale H : Int) {R C : Nat} (hR1 : 1 ≤ R) (hR : R ≤ 200) (hC : C ≤ 200) (w : World) (ht : Tabs w) :
    Calls Tryd.prog 21 #[.string ⟨(secText l tr scale H C R).toArray⟩, .int .i64 (R : Int), .int .i64 (C : Int)] w (RowsGiven w l tr scale H R C) := by
  have hz := secText_length l tr scale H C R
  have hz2 : R * (C + 1) ≤ 200 * 201 := Nat.mul_le_mul hR (by omega)
  obtain ⟨T, hTe⟩ : ∃ T : ByteArray, T = ⟨(secText l tr scale H C R).toArray⟩ := ⟨_, rfl⟩
  have hT : bs T = secText l tr scale H C R := by rw [hTe, bs_data]
  have hTs : T.size ≤ 4000000000 := by rw [← bs_length, hT]; omega
  have hparts : partsOf 10 (bs T) = ((List.range R).map fun r => secRow l tr scale H r C) ++ [[]] := by
    have := secText_parts l tr scale H C R [] (by simp)
    rwa [List.append_nil, ← hT] at this
  rw [← hTe]
  obtain ⟨W, hW, hWs, hWb, hWh⟩ := boxed w (.cells #[.int .i64 (C : Int)] 3)
  have hcc : ∀ z : World, Below W.heap.size W z → z.cell? ⟨w.heap.size, 0, none⟩ = some (.int .i64 (C : Int)) := fun z hz => After.cells hWh (by omega) ⟨z, hz⟩ 0 _ rfl
  have HSP := hide (split_any 10 T W (ht.below hWb) hTs)
  have HP := hide hparts
  have HW := hide hW
  have HWb := hide hWb
  have HCC := hide hcc
  clear hT hTs hTe hz hz2 hparts hW hWb hWs hWh hcc ht
  go_enter Tryd.func21, Tryd.ntmps21
  go_wp2_with fail
  rw [← HW.out]
  refine HSP.out.mono ?_
  rintro e w2 ⟨LB, h1, rfl, h2⟩
  rw [HP.out] at h1
  have hlen : LB.length = R + 1 := by have := congrArg List.length h1; simpa using this
  have hnew := heap_alloc_new W (.cells (LB.map Value.string).toArray 9)
  rw [← h2] at hnew
  have hw2s : W.heap.size < w2.heap.size := by rw [h2]; simp
  have hbW2 : Below W.heap.size W w2 := by rw [h2]; exact (Below.refl _ _).alloc (Nat.le_refl _) _
  have hcell : ∀ (r : Nat) (x : ByteArray), LB[r]? = some x → w2.cell? ⟨W.heap.size, r, none⟩ = some (.string x) := fun r x hx => by
    rw [Lib.cell_of_heap hnew]; simp [hx]
  have hrows : SecRowsIn w2 w2.heap.size W.heap.size l tr scale H R C := ⟨hw2s, fun r hr => by
    have hx : LB[r]? = some LB[r] := List.getElem?_eq_getElem (by omega)
    refine ⟨LB[r], hcell r _ hx, secRowS_of ?_⟩
    have := congrArg (fun q => q[r]?) h1
    simp [hx, hr, List.getElem?_append] at this
    exact this⟩
  have hlast : ∃ x : ByteArray, w2.cell? ⟨W.heap.size, R, none⟩ = some (.string x) ∧ x.toList.isEmpty = true := by
    have hx : LB[R]? = some LB[R] := List.getElem?_eq_getElem (by omega)
    refine ⟨_, hcell R _ hx, ?_⟩
    have := congrArg (fun q => q[R]?) h1
    simp [hx] at this
    show (bs LB[R]).isEmpty = true
    rw [this]; rfl
  obtain ⟨x, hxc, hxe⟩ := hlast
  have hsl : SlAt w2 w2.heap.size 1 strCells ⟨some ⟨W.heap.size, 0, none⟩, R + 1, LB.take R⟩ := by
    refine ⟨by simp; omega, by simp [maxLen]; omega, fun _ => ⟨W.heap.size, 0, rfl, hw2s, fun i y hy j u hu => ?_⟩⟩
    have hi : i < R := by
      rcases Nat.lt_or_ge i R with h | h
      · exact h
      · simp [List.getElem?_take, Nat.not_lt.2 h] at hy
    rw [List.getElem?_take_of_lt hi] at hy
    have := hcell i y hy
    cases j with
    | zero => simp [strCells] at hu; subst hu; simpa using this
    | succ j => simp [strCells] at hu
  have hany : (LB.take R).any (longB C) = false := by
    rw [List.any_eq_false]
    intro y hy
    obtain ⟨i, hi, e⟩ := List.getElem_of_mem hy
    have hiR : i < R := by simp at hi; omega
    have h3 := congrArg (fun q => q[i]?) h1
    have hx : LB[i]? = some LB[i] := List.getElem?_eq_getElem (by omega)
    simp [hx, hiR, List.getElem?_append] at h3
    rw [List.getElem_take] at e
    rw [← e]
    have := (secRowS_of h3).2.1
    simp [longB, this]
  have hlt : (LB.take R).length = R := by simp; omega
  have KC : Calls Tryd.prog 56 #[.slice (some ⟨W.heap.size, 0, none⟩) R (R + 1), .func (.func 57) #[] #[.pointer (some ⟨w.heap.size, 0, none⟩)]] w2 (Gives w2 (.bool false)) := by
    have := containsStr_any (some ⟨W.heap.size, 0, none⟩) (R + 1) (LB.take R) (longB C) 57 #[.pointer (some ⟨w.heap.size, 0, none⟩)] enters_lines1 w2 w2.heap.size (Nat.le_refl _) hsl (fun y e _ => by
      rw [oneOne]
      exact lines1_any e C _ y.val (HCC.out _ (hbW2.trans (y.below.mono (by omega)))))
    rw [hany, hlt] at this
    exact this
  have HKC := hide KC
  have HR := hide hrows
  have HB := hide hbW2
  have HWW := hide (show w.heap.size ≤ W.heap.size by have := HWb.out.size; omega)
  have hR0 : (0 : Int) ≤ (R : Int) := by omega
  have hR3 : (R : Int) < ((R + 1 : Nat) : Int) := by omega
  clear h1 h2 hnew hcell hrows hsl hany hlt KC hbW2
  rw [hlen]
  clear hlen LB
  go_wp2_with (first | (go_at_call 56; refine HKC.out.mono ?_; rintro e w3 ⟨rfl, hb3⟩))
  go_ret2
  exact ⟨_, rfl, HR.out.to hb3 hb3.size, HWb.out.trans ((HB.out.trans (hb3.mono (by omega))).mono HWW.out)⟩
end Go.Proofs.YtliehhnnfpkciaaDoor
