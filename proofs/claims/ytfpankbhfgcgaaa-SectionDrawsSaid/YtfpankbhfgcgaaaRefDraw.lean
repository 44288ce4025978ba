/- loftblockref33.Draw: the reference's drawing of the plan. -/
import Derived.Test.YtfpankbhfgcgaaaPicLaw
namespace Go.Proofs.Ytfpankbhfgcgaaa
open Go.RowKit

set_option maxHeartbeats 2000000 in
theorem refDraw_any (h : HouseD) (hz : Sized h.sets.l) (hd : ∀ s ∈ h.sets.l, Drawable s) (scale : Int) (hs1 : 1 ≤ scale) (hs2 : scale ≤ 1048576) (R C : Nat) (hR : rowsTo h.sets.l scale = (R : Int)) (hC : colsTo h.sets.l scale = (C : Int)) (hR4 : R ≤ 400) (hC4 : C ≤ 400) (w : World) (B : Nat) (hB : B ≤ w.heap.size) (hat : HouseD.at_ w B h) :
    Calls Try.prog 14 #[.agg #[.string h.name, .int .i64 h.height, .slice h.sets.A h.sets.l.length h.sets.cap, .slice h.roofs.A h.roofs.l.length h.roofs.cap], .int .i64 scale] w (Gives w (.string ⟨(planText h.sets.l scale C R).toArray⟩)) := by
  obtain ⟨W, hW, hWs, hWb, hWh⟩ := boxed w (.cells #[.string h.name, .int .i64 h.height, .slice h.sets.A h.sets.l.length h.sets.cap, .slice h.roofs.A h.roofs.l.length h.roofs.cap] 25)
  have hc := fun y : After W.heap.size W => HouseD.boxed hWh (by omega) y
  have hbd : ∀ y : After W.heap.size W, Below w.heap.size w y.val := fun y => hWb.trans (y.below.mono (by omega))
  have hatW : HouseD.at_ W W.heap.size h := hat.to (hWb.mono hB) (by omega)
  have hsz : Calls Try.prog 13 #[.agg #[.string h.name, .int .i64 h.height, .slice h.sets.A h.sets.l.length h.sets.cap, .slice h.roofs.A h.roofs.l.length h.roofs.cap], .int .i64 scale] W fun e w'' => e = .returned (.tuple #[.int .i64 (R : Int), .int .i64 (C : Int)]) ∧ ∃ z : After W.heap.size W, w'' = z.val := by
    have := Gives.first (refSize_any h hz scale hs1 hs2 W W.heap.size (Nat.le_refl _) hatW)
    rw [hR, hC] at this
    exact this
  have hpic : ∀ y : After W.heap.size W, ∀ r c : Nat, c ≤ 400 → Calls Try.prog 37 #[.agg #[.string h.name, .int .i64 h.height, .slice h.sets.A h.sets.l.length h.sets.cap, .slice h.roofs.A h.roofs.l.length h.roofs.cap], .int .i64 scale, .int .i64 (r : Int), .int .i64 (c : Int)] y.val fun e w'' => e = .returned (.string ⟨#[markByte (marks h.sets.l scale r c)]⟩) ∧ ∃ z : After W.heap.size W, w'' = z.val := fun y r c hc => by
    have := Gives.after (Nat.le_refl _) (picture_any h hd scale r c hs1 hs2 (by omega) (by omega) y.val W.heap.size y.size (hatW.to y.below (Nat.le_refl _)))
    rw [glyph_marks hs1] at this
    exact this
  have HS := hide hsz
  have HPC := hide hpic
  have HW := hide hW
  have HBD := hide hbd
  clear hW hWs hWh hWb hbd hat hatW hsz hpic hz hd hR hC
  go_enter Try.func14, Try.ntmps14
  go_wp2_with (go_at_call 13; rw [← HW.out]; refine HS.out.mono ?_; rintro e w' ⟨rfl, y, rfl⟩)
  go_loopw [7, 8, 9] (fun s v _ wr => ∃ (i : Nat) (t : ByteArray), v = .int .i64 i ∧ i ≤ R ∧ s = .string t ∧ Hid (bs t = planText h.sets.l scale C i) ∧ t.size ≤ 160400 ∧ ∃ x : After W.heap.size W, wr = x.val) (fun _ v _ _ => R - (intOf v).toNat)
  case atStart => exact ⟨0, ⟨#[]⟩, rfl, Nat.zero_le _, rfl, hide (by simp [planText, bs_data]), by decide, y, rfl⟩
  case round =>
    obtain ⟨i, t, rfl, hi, rfl, ht, htz, x, rfl⟩ := hrel
    by_cases hit : i < R
    · go_wp2
      have HT := ht
      go_loopw [7, 9] (fun s v wr => ∃ (j : Nat) (t : ByteArray), v = .int .i64 j ∧ j ≤ C ∧ s = .string t ∧ Hid (bs t = planText h.sets.l scale C i ++ rowText h.sets.l scale i j) ∧ t.size ≤ i * (C + 1) + j ∧ ∃ x : After W.heap.size W, wr = x.val) (fun _ v _ => C - (intOf v).toNat)
      case atStart => exact ⟨0, t, rfl, Nat.zero_le _, rfl, hide (by rw [HT.out]; simp [rowText]), by have := planText_length h.sets.l scale C i; rw [← HT.out, bs_length] at this; omega, x, rfl⟩
      case round =>
        clear HT ht htz
        obtain ⟨j, t, rfl, hj, rfl, ht, htz, x, rfl⟩ := hrel
        have hmul : i * (C + 1) ≤ 400 * 401 := Nat.mul_le_mul (by omega) (by omega)
        have htz2 : t.size ≤ 160800 := by omega
        have HTZ := hide htz
        clear hmul htz
        by_cases hjt : j < C
        · have HN := hide (rowText_next h.sets.l scale i j)
          have hb1 : ByteArray.size ⟨#[markByte (marks h.sets.l scale i j)]⟩ = 1 := rfl
          have hbb : bs ⟨#[markByte (marks h.sets.l scale i j)]⟩ = [markByte (marks h.sets.l scale i j)] := by rw [bs_data]
          have HPP := hide (fun y => HPC.out y i j (by omega))
          generalize (⟨#[markByte (marks h.sets.l scale i j)]⟩ : ByteArray) = g at *
          have hgz : g.size ≤ 1 := by omega
          have HB1 := hide hb1
          have HBB := hide hbb
          clear hb1 hbb
          go_wp2_with (go_at_call 37; refine (HPP.out _).mono ?_; rintro e w' ⟨rfl, y, rfl⟩)
          exact ⟨⟨j + 1, t ++ g, by go_num, by omega, rfl, hide (by rw [bs_append, ht.out, HBB.out, HN.out, List.append_assoc]), by rw [ByteArray.size_append, HB1.out]; have := HTZ.out; omega, y, rfl⟩, by simp [intOf]; omega⟩
        · have ejC : j = C := by omega
          subst ejC
          have HE := hide (show bs (t ++ ⟨#[10]⟩) = planText h.sets.l scale j (i + 1) by rw [bs_append, ht.out, planText, bs_data ⟨#[10]⟩])
          have hez : (t ++ ⟨#[10]⟩).size ≤ 160400 := by
            have := planText_small h.sets.l scale (C := j) (i := i + 1) hC4 (by omega)
            rwa [← HE.out, bs_length] at this
          go_wp2
          exact ⟨⟨i + 1, t ++ ⟨#[10]⟩, by go_num, by omega, rfl, hide HE.out, hez, x, rfl⟩, by simp [intOf]; omega⟩
    · have eir : i = R := by omega
      subst eir
      go_wp2
      go_ret
      exact Gives.mk (congrArg Value.string (bs_inj (by rw [ht.out, bs_data]))) (HBD.out _)
end Go.Proofs.Ytfpankbhfgcgaaa
