/- loftblocklaw33.lines at a drawing of the plan; the drawing refused. -/
import Derived.Test.YtliehhnnfpkciaaGreatDoorPlanSeen
import Derived.Test.YtliehhnnfpkciaaGreatDoorDraw
import Derived.Test.YtliehhnnfpkciaaGreatDoorLinesLib
namespace Go.Proofs.YtliehhnnfpkciaaGreatDoor
open Go.RowKit

/-- the lines of the drawing in memory: R strings of C bytes each -/
def RowsIn (w : World) (A : Option Addr) (n : Nat) (l : List SetD) (scale : Int) (R C : Nat) : Prop :=
  n = R ∧ (0 < R → ∃ g, A = some ⟨g, 0, none⟩ ∧ g < w.heap.size ∧ ∀ r, r < R → ∃ s : ByteArray, w.cell? ⟨g, r, none⟩ = some (.string s) ∧ s.size = C ∧ ∀ c (h : c < s.size), s[c] = markByte (marks l scale r c))
theorem RowsIn.row {w : World} {A : Option Addr} {n : Nat} {l : List SetD} {scale : Int} {R C r : Nat} (h : RowsIn w A n l scale R C) (hr : r < R) : ∃ g, A = some ⟨g, 0, none⟩ ∧ ∃ s : ByteArray, (∀ z : After w.heap.size w, z.val.cell? ⟨g, r, none⟩ = some (.string s)) ∧ s.size = C ∧ ∀ c (h : c < s.size), s[c] = markByte (marks l scale r c) := by
  obtain ⟨_, h2⟩ := h
  obtain ⟨g, hA, hg, h3⟩ := h2 (by omega)
  obtain ⟨s, h4, h5, h6⟩ := h3 r hr
  exact ⟨g, hA, s, fun z => z.cell h4 hg, h5, h6⟩
theorem RowsIn.below {w w' : World} {A : Option Addr} {n : Nat} {l : List SetD} {scale : Int} {R C : Nat} (h : RowsIn w A n l scale R C) (hb : Below w.heap.size w w') : RowsIn w' A n l scale R C := by
  obtain ⟨h1, h2⟩ := h
  refine ⟨h1, fun h0 => ?_⟩
  obtain ⟨g, hA, hg, h3⟩ := h2 h0
  refine ⟨g, hA, Nat.lt_of_lt_of_le hg hb.size, fun r hr => ?_⟩
  obtain ⟨s, h4, h5⟩ := h3 r hr
  exact ⟨s, (hb.cell (p := ⟨g, r, none⟩) hg).trans h4, h5⟩
set_option maxHeartbeats 1000000 in
theorem lines_plan (l : List SetD) (scale : Int) {C R : Nat} (hC : C ≤ 400) (hR : R ≤ 400) (w : World) (ht : Tabs w) :
    Calls Tryz.prog 10 #[.string ⟨(planText l scale C R).toArray⟩] w fun e w' => ∃ A n, e = .returned (.slice A n n) ∧ RowsIn w' A n l scale R C ∧ Below w.heap.size w w' := by
  cases R with
  | zero =>
    have hn : (⟨(planText l scale C 0).toArray⟩ : ByteArray).toList.isEmpty = true := List.isEmpty_iff.2 (toList_nil (by rw [planText]; rfl))
    generalize (⟨(planText l scale C 0).toArray⟩ : ByteArray) = T at *
    go_enter Tryz.func10, Tryz.ntmps10
    go_wp2
    go_ret
    exact ⟨none, 0, rfl, ⟨rfl, fun h => absurd h (by omega)⟩, Below.refl _ _⟩
  | succ R =>
    have hl := planText_small l scale hC hR
    have hT : bs ⟨(planText l scale C (R + 1)).toArray⟩ = planInit l scale C R ++ [10] := by rw [bs_data, ← planText_init]
    have hTs : (⟨(planText l scale C (R + 1)).toArray⟩ : ByteArray).size = (planText l scale C (R + 1)).length := by simp [ByteArray.size]
    obtain ⟨T, hTe⟩ : ∃ T : ByteArray, T = ⟨(planText l scale C (R + 1)).toArray⟩ := ⟨_, rfl⟩
    rw [← hTe] at hT hTs ⊢
    have hn : T.toList.isEmpty = false := by
      rw [show T.toList = bs T from rfl, hT]; simp
    have hpl := planInit_lines l scale C R
    have hsz : T.size ≤ 4000000000 := by omega
    have htr := trimSuffix_any T hsz w
    have hE : ∀ s : ByteArray, bs s = planInit l scale C R → s.size ≤ 4000000000 := fun s hs => by
      have h1 := congrArg List.length hs
      have h2 := congrArg List.length hT
      rw [bs_length] at h1 h2
      simp at h2
      omega
    have hcut := trim_init hT
    have HSP := hide (fun (s : ByteArray) (hs : bs s = planInit l scale C R) (y : After w.heap.size w) => split_any 10 s y.val (ht.below y.below) (hE s hs))
    have HTR := hide htr
    have HPL := hide hpl
    have HCUT := hide hcut
    clear hT hTs hTe hpl htr hE hcut
    go_enter Tryz.func10, Tryz.ntmps10
    go_wp2_with fail
    refine (Gives.first HTR.out).mono ?_
    rintro e w1 ⟨rfl, y1, rfl⟩
    go_wp2_with fail
    refine (HSP.out _ HCUT.out y1).mono ?_
    rintro e w2 ⟨LB, h1, rfl, h2⟩
    have HR := hide (show RowsIn w2 (some ⟨y1.val.heap.size, 0, none⟩) LB.length l scale (R + 1) C ∧ Below w.heap.size w w2 from by
      rw [HCUT.out, HPL.out] at h1
      have hlen : LB.length = R + 1 := by have := congrArg List.length h1; simpa using this
      have hnew := heap_alloc_new y1.val (.cells (LB.map Value.string).toArray 9)
      refine ⟨⟨hlen, fun _ => ⟨_, rfl, by rw [h2]; simp, fun r hr => ?_⟩⟩, by rw [h2]; exact y1.below.alloc y1.size _⟩
      have hx : LB[r]? = some LB[r] := List.getElem?_eq_getElem (by omega)
      have h3 : bs LB[r] = rowText l scale r C := by
        have := congrArg (fun q => q[r]?) h1
        simp [hx, hr] at this
        exact this
      refine ⟨LB[r], ?_, ?_, fun c hc => ?_⟩
      · rw [h2, Lib.cell_of_heap hnew]; simp [hx]
      · rw [← bs_length, h3, rowText_length]
      · have h4 := bs_get LB[r] c hc
        rw [h3] at h4
        have hcC : c < C := by
          have := congrArg List.length h3
          rw [bs_length, rowText_length] at this
          omega
        rw [rowText_get l scale r hcC] at h4
        injection h4 with h4
        exact h4.symm)
    clear h1 h2
    go_wp2
    go_ret
    exact ⟨_, _, rfl, HR.out.1, HR.out.2⟩
/-- the drawing is refused -/
theorem draw_not {h : HouseD} {scale : Int} {W : World} (hok : h.ok) (hn : ¬ (givenE h scale = 0 ∧ rowsTo h.sets.l scale ≤ 400 ∧ colsTo h.sets.l scale ≤ 400)) (hat : ∀ y : After W.heap.size W, HouseD.at_ y.val W.heap.size h) :
    ∃ code : Int, (code != 0) = true ∧ ∀ y : After W.heap.size W, Calls Tryz.prog 8 #[.agg #[.string h.name, .int .i64 h.height, .slice h.sets.A h.sets.l.length h.sets.cap, .slice h.roofs.A h.roofs.l.length h.roofs.cap], .int .i64 scale] y.val (Gives y.val (.tuple #[.string ⟨#[]⟩, .int .i64 code])) := by
  by_cases h0 : givenE h scale = 0
  · exact ⟨4, rfl, fun y => draw_full h hok scale h0 (by have : ¬ (rowsTo h.sets.l scale ≤ 400 ∧ colsTo h.sets.l scale ≤ 400) := fun h => hn ⟨h0, h⟩; omega) y.val W.heap.size y.size (hat y)⟩
  · exact ⟨givenE h scale, by rw [bne_iff_ne]; exact h0, fun y => draw_bad h hok scale h0 y.val W.heap.size y.size (hat y)⟩
end Go.Proofs.YtliehhnnfpkciaaGreatDoor
