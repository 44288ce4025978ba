/- The rows of the section's picture joined by line's ends, and turned into a string. -/
import Derived.Test.YtliehhnnfpkciaaDoorSecSpec
import Derived.Laws.IdiomStrings
namespace Go.Proofs.YtliehhnnfpkciaaDoor
open Go.RowKit

theorem bs_app (a b : ByteArray) : bs (a ++ b) = bs a ++ bs b := by
  rw [bs_data, bs_data, bs_data, ByteArray.data_append, Array.toList_append]
theorem fresh_cells {B : Nat} {w' : World} {v : Value} {l : List UInt8} (h : Lib.FreshBytes B w' v l) : ∃ (a : Addr) (cap : Nat), v = .slice (some a) l.length cap ∧ ∀ j (hj : j < l.length), w'.cell? (a.add j) = some (.int .u8 (l[j].toNat : Int)) := by
  obtain ⟨g, cap, zs, rfl, _, hlc, _, hz, hr, hb, hc, _⟩ := h
  refine ⟨⟨g, 0, none⟩, cap, rfl, fun j hj => ?_⟩
  have e : (⟨g, 0, none⟩ : Addr).add j = ⟨g, j, none⟩ := by unfold Addr.add; split <;> simp_all
  rw [e, hc j (by omega)]
  have hj2 : j < zs.length := by omega
  have hzj : zs.getD j 0 = zs[j] := by simp [List.getD, List.getElem?_eq_getElem hj2]
  obtain ⟨r0, r1⟩ := hr zs[j] (List.getElem_mem hj2)
  have hbj : (Lib.bytesOf (zs.take l.length))[j]? = some l[j] := by rw [hb, List.getElem?_eq_getElem hj]
  have hbk : (Lib.bytesOf (zs.take l.length))[j]? = some (UInt8.ofNat zs[j].toNat) := by
    rw [Lib.bytesOf, List.getElem?_map, List.getElem?_take_of_lt hj, List.getElem?_eq_getElem hj2]; rfl
  have hlj : l[j] = UInt8.ofNat zs[j].toNat := Option.some.inj (hbj.symm.trans hbk)
  rw [hzj, hlj, UInt8.toNat_ofNat']
  congr 2
  omega
theorem lens_rows (l : List SetD) (tr : List Int) (scale H : Int) (C : Nat) : ∀ n, Lib.lens ((List.range n).map fun r => secRow l tr scale H r C) = n * C
  | 0 => by simp [Lib.lens]
  | n + 1 => by
    have ih := lens_rows l tr scale H C n
    unfold Lib.lens at ih ⊢
    rw [List.range_succ, List.map_append, List.map_append, List.sum_append, ih, Nat.succ_mul]
    simp [secRow_length]
theorem join_rows (pb g gcap T B : Nat) (scale : Int) (R C : Nat) (rb : Nat → Nat) (l : List SetD) (tr : List Int) (H : Int) (hR1 : 1 ≤ R) (hR2 : R ≤ 200) (hC1 : 1 ≤ C) (hC2 : C ≤ 200) (n : Nat) (u : World)
    (hP : SPic pb g gcap T B scale R C rb (fun r c => secCell l tr scale H r c) u) (hn : u.cell? ⟨n, 0, none⟩ = some (.int .u8 10)) :
    Calls Tryd.prog 55 #[.slice (some ⟨g, 0, none⟩) R gcap, .slice (some ⟨n, 0, none⟩) 1 1] u fun e w' => ∃ (a : Addr) (cap : Nat), e = .returned (.slice (some a) (Lib.join ((List.range R).map fun r => secRow l tr scale H r C) [10]).length cap) ∧ (convert 56 9 (.slice (some a) (Lib.join ((List.range R).map fun r => secRow l tr scale H r C) [10]).length cap)).run Tryd.prog w' = .ok (.string ⟨(Lib.join ((List.range R).map fun r => secRow l tr scale H r C) [10]).toArray⟩) w' ∧ Below u.heap.size u w' := by
  have hcells : ∀ r, r < R → ∀ i x, (secRow l tr scale H r C)[i]? = some x → u.cell? ((⟨rb r, 0, none⟩ : Addr).add i) = some (.int .u8 (x.toNat : Int)) := fun r hr i x hx => by
    have e : (⟨rb r, 0, none⟩ : Addr).add i = ⟨rb r, i, none⟩ := by unfold Addr.add; split <;> simp_all
    have hi : i < C := by have := (List.getElem?_eq_some_iff.1 hx).1; rwa [secRow_length] at this
    have e2 : x = secByte l tr scale H r i := by
      rw [secRow, List.getElem?_map, List.getElem?_range hi] at hx
      simpa using hx.symm
    rw [e, (hP.row r hr i hi).1, e2, secByte_toNat]
  have key : Calls Tryd.prog 55 #[.slice (some ⟨g, 0, none⟩) R gcap, .slice (some ⟨n, 0, none⟩) 1 1] u fun e w' => ∃ v', e = .returned v' ∧ Lib.FreshBytes u.heap.size w' v' (Lib.join ((List.range R).map fun r => secRow l tr scale H r C) [10]) ∧ Below u.heap.size u w' := by
    by_cases h1 : R = 1
    · subst h1
      have := join_one g 0 gcap ⟨rb 0, 0, none⟩ C (secRow l tr scale H 0 C) (.slice (some ⟨n, 0, none⟩) 1 1) u (by rw [secRow_length]; exact hP.outer 0 (by omega)) (hcells 0 (by omega)) (by rw [secRow_length]; omega) (by rw [secRow_length]; omega)
      simpa [Lib.join_one] using this
    · have hm : R * C ≤ 200 * 200 := Nat.mul_le_mul hR2 hC2
      refine join_many g 0 R gcap ((List.range R).map fun r => .slice (some ⟨rb r, 0, none⟩) C C) ((List.range R).map fun r => secRow l tr scale H r C) _ [10] u (by simp) (by omega) ⟨by simp, fun i v hv => ?_, fun i v row hv hrow => ?_⟩ hP.room ⟨some ⟨n, 0, none⟩, 1, rfl, fun h => by simp at h, fun a ha i x hx => ?_⟩ (by omega) (by rw [lens_rows]; simp; omega)
      · have hi : i < R := by have := (List.getElem?_eq_some_iff.1 hv).1; simpa using this
        rw [List.getElem?_map, List.getElem?_range hi] at hv
        have e : (⟨g, 0, none⟩ : Addr).add i = ⟨g, i, none⟩ := by unfold Addr.add; split <;> simp_all
        rw [e, hP.outer i hi]
        simpa using hv
      · have hi : i < R := by have := (List.getElem?_eq_some_iff.1 hv).1; simpa using this
        rw [List.getElem?_map, List.getElem?_range hi] at hv hrow
        have e1 : row = secRow l tr scale H i C := by simpa using hrow.symm
        have e2 : v = .slice (some ⟨rb i, 0, none⟩) C C := by simpa using hv.symm
        subst e1
        exact ⟨some ⟨rb i, 0, none⟩, C, by rw [e2, secRow_length], fun h => by simp at h, fun a ha j x hx => by rw [← Option.some.inj ha]; exact hcells i hi j x hx⟩
      · rw [← Option.some.inj ha]
        match i, hx with
        | 0, hx =>
          have e2 : x = 10 := by simpa using hx.symm
          rw [e2]
          simpa [Addr.add] using hn
  refine key.mono ?_
  rintro e w' ⟨v', rfl, hf, hb⟩
  obtain ⟨a, cap, rfl, hc⟩ := fresh_cells hf
  exact ⟨a, cap, rfl, run_convert_bytes_back w' _ _ _ a cap _ Tryd.underlying56 Tryd.underlying5 Tryd.underlying9 hc, hb⟩
end Go.Proofs.YtliehhnnfpkciaaDoor
