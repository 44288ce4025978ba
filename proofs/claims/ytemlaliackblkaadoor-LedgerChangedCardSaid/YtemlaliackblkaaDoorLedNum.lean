/- ledger.integer. -/
import Derived.Test.YtemlaliackblkaaDoorLedLib
namespace Go.Proofs.YtemlaliackblkaaDoor
open Go.RowKit

theorem itoa_same {v : Int} {s : ByteArray} : (Lib.itoa v == s.toList) = true ↔ Lib.itoa v = bs s := by
  rw [beq_iff_eq]; rfl
set_option maxRecDepth 100000 in
set_option maxHeartbeats 2000000 in
theorem integer_any (s : ByteArray) (hs : s.size ≤ 140737488355328) (w : World) (ht : Tabs w) : Calls Tryd.prog 56 #[.string s] w fun e w' =>
    ∃ n : Int, e = .returned (.tuple #[.int .i64 n, .bool (intOk (bs s))]) ∧ (intOk (bs s) = true → n = intV (bs s)) ∧ Below w.heap.size w w' := by
  have KA := hide (atoi_any s hs w ht)
  have KI := hide fun (m : Int) (hm : I64 m) (y : After w.heap.size w) => Gives.after (x := y) (Nat.le_refl _) (itoa_any m hm y.val (ht.below y.below))
  obtain ⟨ok, hok⟩ : ∃ ok, ok = intOk (bs s) := ⟨_, rfl⟩
  obtain ⟨n0, hn0⟩ : ∃ n0, n0 = intV (bs s) := ⟨_, rfl⟩
  rw [← hok, ← hn0]
  have HOK := hide hok
  have HN := hide hn0
  have HL := hide (bs_length s)
  clear ht hok hn0
  go_enter Tryd.func56, Tryd.ntmps56
  go_wp2_with fail
  refine KA.out.mono ?_
  rintro e w1 ⟨v, er, rfl, hb, hcase⟩
  obtain ⟨y, rfl⟩ := After.exists_iff hb
  clear hb
  rcases hcase with ⟨hv, rfl⟩ | ⟨hn, t, p, rfl⟩
  · have h64 : I64 v := Lib.atoiAll_bounds hv
    have HI := hide (intOk_iff hv)
    have HV := hide (fun ho => intOk_ok hv ho)
    rw [HL.out, ← HOK.out] at HI
    rw [← HOK.out, ← HN.out] at HV
    have KI2 := hide (KI.out v h64)
    clear hv h64
    rcases (show v < 0 ∨ 0 ≤ v by omega) with h0 | h0
    · have HF := hide (show ok = false by
        cases ho : ok
        · rfl
        · have := (HI.out.1 ho).1; omega)
      go_wp2
      go_ret2
      exact ⟨v, by rw [HF.out]; rfl, HV.out, y.below⟩
    · rcases (show 15 < (s.size : Int) ∨ (s.size : Int) ≤ 15 by omega) with h15 | h15
      · have HF := hide (show ok = false by
          cases ho : ok
          · rfl
          · have := (HI.out.1 ho).2.1; omega)
        go_wp2
        go_ret2
        exact ⟨v, by rw [HF.out]; rfl, HV.out, y.below⟩
      · rcases Bool.eq_false_or_eq_true (Lib.itoa v == s.toList) with hq | hq
        all_goals
          have HF := hide (show ok = (Lib.itoa v == s.toList) by
            rw [Bool.eq_iff_iff, HI.out, itoa_same]
            constructor
            · intro h; exact h.2.2
            · intro h; exact ⟨h0, by omega, h⟩)
          rw [hq] at HF
          go_wp2_with (go_at_call 47; refine (KI2.out y).mono ?_; rintro e w' ⟨rfl, z, rfl⟩)
          go_ret2
          exact ⟨v, by rw [HF.out]; rfl, HV.out, z.below⟩
  · have HF := hide (intOk_no hn)
    rw [← HOK.out] at HF
    clear hn
    go_wp2
    go_ret2
    exact ⟨v, by rw [HF.out]; rfl, fun h => absurd (HF.out.symm.trans h) (by simp), y.below⟩
end Go.Proofs.YtemlaliackblkaaDoor
