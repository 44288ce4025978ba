/- The reference's sum, its lines and its integers. -/
import Derived.Test.YtemlaliackblkaaDoorLedMem
import Derived.Test.YtemlaliackblkaaDoorLedOut
namespace Go.Proofs.YtemlaliackblkaaDoor
open Go.RowKit

theorem sum_rem (s : Nat) (c : UInt8) : ((31 * (s : Int) + (c.toNat : Int) + 1) % 4294967296) = ((sumStep s c : Nat) : Int) := by
  unfold sumStep
  omega
set_option maxRecDepth 100000 in
set_option maxHeartbeats 2000000 in
theorem refSum_any (A : Option Addr) (cap : Nat) (l : List UInt8) (w : World) (B : Nat) (hB : B ≤ w.heap.size) (hs : SlAt w B 1 byteCells ⟨A, cap, l⟩) :
    Calls Tryd.prog 22 #[.slice A l.length cap] w (Gives w (.int .i64 (sumE l))) := by
  have hm : cap ≤ 9223372036854775807 := hs.2.1
  have hlc : l.length ≤ cap := hs.1
  have HS := hide hs
  clear hs
  go_enter Tryd.func22, Tryd.ntmps22
  go_wp2
  go_loopw [3, 4] (fun s v wr => ∃ k : Nat, v = .int .i64 k ∧ s = .int .i64 (sumE (l.take k)) ∧ k ≤ l.length ∧ ∃ x : After w.heap.size w, wr = x.val) (fun _ v _ => l.length - (intOf v).toNat)
  case atStart => exact ⟨0, rfl, rfl, Nat.zero_le _, After.refl _ _, rfl⟩
  case round =>
    obtain ⟨k, rfl, rfl, hk, x, rfl⟩ := hrel
    by_cases hlt : k < l.length
    · obtain ⟨b, off, hA, hb, hcell⟩ := HS.out.2.2 (show 0 < l.length by omega)
      simp only at hA
      subst hA
      have hx : l[k]? = some l[k] := List.getElem?_eq_getElem hlt
      have he := fun x : After w.heap.size w => byteElem hx (show b < w.heap.size by omega) hcell x
      have HNX := hide (sumE_next hx)
      have hsl := sumE_lt (l.take k)
      have hcb := byte_lt l[k]
      have hrem := sum_rem (sumE (l.take k)) l[k]
      have hin : (k : Int) < (l.length : Int) := by omega
      have hi0 : (0 : Int) ≤ (k : Int) := by omega
      obtain ⟨s, hs⟩ : ∃ s, s = sumE (l.take k) := ⟨_, rfl⟩
      obtain ⟨c, hc⟩ : ∃ c, c = l[k] := ⟨_, rfl⟩
      rw [← hs] at HNX hsl hrem ⊢
      rw [← hc] at HNX he hcb hrem
      have HREM := hide hrem
      clear hs hc hcell hx hrem
      go_wp2
      exact ⟨⟨k + 1, by go_num, by rw [HNX.out, ← HREM.out], by omega, _, rfl⟩, by simp [intOf]; omega⟩
    · have hkl : k = l.length := by omega
      subst hkl
      rw [List.take_length]
      go_wp2
      go_ret
      exact Gives.mk rfl x.below
def lineE (l : List UInt8) : Int := match l.findIdx? (fun c => c == 10) with | some m => m + 1 | none => 0
set_option maxRecDepth 100000 in
set_option maxHeartbeats 2000000 in
theorem refLine_any (A : Option Addr) (cap : Nat) (l : List UInt8) (w : World) (B : Nat) (hB : B ≤ w.heap.size) (hs : SlAt w B 1 byteCells ⟨A, cap, l⟩) :
    Calls Tryd.prog 40 #[.slice A l.length cap] w (Gives w (.int .i64 (lineE l))) := by
  have hm : cap ≤ 9223372036854775807 := hs.2.1
  have hlc : l.length ≤ cap := hs.1
  have HS := hide hs
  clear hs
  go_enter Tryd.func40, Tryd.ntmps40
  go_wp2
  go_loopw [3] (fun v wr => ∃ k : Nat, v = .int .i64 k ∧ k ≤ l.length ∧ Hid (∀ j d, j < k → l[j]? = some d → d ≠ 10) ∧ ∃ x : After w.heap.size w, wr = x.val) (fun v _ => l.length - (intOf v).toNat)
  case atStart => exact ⟨0, rfl, Nat.zero_le _, hide (fun j d hj => absurd hj (by omega)), After.refl _ _, rfl⟩
  case round =>
    obtain ⟨k, rfl, hk, hall, x, rfl⟩ := hrel
    by_cases hlt : k < l.length
    · obtain ⟨b, off, hA, hb, hcell⟩ := HS.out.2.2 (show 0 < l.length by omega)
      simp only at hA
      subst hA
      have hx : l[k]? = some l[k] := List.getElem?_eq_getElem hlt
      have he := fun x : After w.heap.size w => byteElem hx (show b < w.heap.size by omega) hcell x
      have hin : (k : Int) < (l.length : Int) := by omega
      have hi0 : (0 : Int) ≤ (k : Int) := by omega
      have HX := hide hx
      obtain ⟨c, hc⟩ : ∃ c, c = l[k] := ⟨_, rfl⟩
      rw [← hc] at he HX
      clear hc hcell hx
      by_cases h10 : c = 10
      · have HF := hide (show lineE l = (k : Int) + 1 by rw [lineE, find_at (h10 ▸ HX.out) hall.out])
        have hq : ((c.toNat : Int) == 10) = true := by rw [h10]; rfl
        clear h10
        go_wp2
        go_ret
        exact Gives.mk (by rw [HF.out]; rfl) x.below
      · have hne : ((c.toNat : Int) == 10) = false := by
          rw [beq_eq_false_iff_ne]
          intro e
          exact h10 (UInt8.toNat_inj.1 (by have : c.toNat = 10 := by omega
                                           rw [this]; rfl))
        have HN := hide (show ∀ j d, j < k + 1 → l[j]? = some d → d ≠ 10 from fun j d hj hd => by
          by_cases e : j = k
          · subst e; rw [HX.out] at hd; injection hd with hd; rw [← hd]; exact h10
          · exact hall.out j d (by omega) hd)
        clear h10
        go_wp2
        exact ⟨⟨k + 1, by go_num, by omega, HN, _, rfl⟩, by simp [intOf]; omega⟩
    · have HF := hide (show lineE l = 0 by rw [lineE, find_none' fun j d hj hd => hall.out j d (by omega) hd])
      go_wp2
      go_ret
      exact Gives.mk (by rw [HF.out]; rfl) x.below
set_option maxRecDepth 100000 in
set_option maxHeartbeats 2000000 in
theorem refInteger_any (s : ByteArray) (w : World) (hs : s.size ≤ maxLen) : Calls Tryd.prog 58 #[.string s] w (Gives w (.tuple #[.int .i64 (if intOk (bs s) then intV (bs s) else 0), .bool (intOk (bs s))])) := by
  unfold maxLen at hs
  have hl := bs_length s
  obtain ⟨R, hR⟩ : ∃ R, R = Value.tuple #[.int .i64 (if intOk (bs s) then intV (bs s) else 0), .bool (intOk (bs s))] := ⟨_, rfl⟩
  rw [← hR]
  have HR := hide hR
  clear hR
  rcases Nat.eq_zero_or_pos s.size with h0 | h0
  · have e : intOk (bs s) = false := by
      have : bs s = [] := List.eq_nil_of_length_eq_zero (by omega)
      rw [this]; rfl
    have HF := hide e
    clear e
    have hn : ((s.size : Int) < 1) = True := by simp; omega
    go_enter Tryd.func58, Tryd.ntmps58
    go_wp2
    go_ret2
    exact Gives.mk (by rw [HR.out, HF.out]; rfl) (Below.refl _ _)
  by_cases h15 : 15 < s.size
  · have e : intOk (bs s) = false := by
      simp only [intOk, hl]
      rw [decide_eq_false (show ¬ s.size ≤ 15 by omega)]; simp
    have HF := hide e
    clear e
    clear hl
    go_enter Tryd.func58, Tryd.ntmps58
    go_wp2
    go_ret2
    exact Gives.mk (by rw [HR.out, HF.out]; rfl) (Below.refl _ _)
  have hg := bs_get s 0 h0
  have hbyte : ∀ k (h : k < s.size), (bs s)[k]? = some s[k] := fun k h => bs_get s k h
  by_cases hz : 1 < s.size ∧ (s[0]'h0) = 48
  · obtain ⟨h1, h48⟩ := hz
    have e : intOk (bs s) = false := by
      have hh : (bs s).head? = some 48 := by rw [List.head?_eq_getElem?, hg, h48]
      simp only [intOk, hl, hh]
      rw [decide_eq_true h1]; simp
    have HF := hide e
    clear e
    have hq : (((s[0]'h0).toNat : Int) == 48) = true := by rw [h48]; rfl
    clear hl hg hbyte h48
    go_enter Tryd.func58, Tryd.ntmps58
    go_wp2
    go_ret2
    exact Gives.mk (by rw [HR.out, HF.out]; rfl) (Below.refl _ _)
  · have HZ := hide (show (decide (1 < (bs s).length) && (bs s).head? == some 48) = false by
      rw [List.head?_eq_getElem?, hg, hl]
      by_cases h1 : 1 < s.size
      · have : (s[0]'h0) ≠ 48 := fun h => hz ⟨h1, h⟩
        simp [this]
      · simp [h1])
    have hq : 1 < s.size → (((s[0]'h0).toNat : Int) == 48) = false := fun h1 => by
      rw [beq_eq_false_iff_ne]
      intro e
      exact hz ⟨h1, UInt8.toNat_inj.1 (by have : (s[0]'h0).toNat = 48 := by omega
                                          rw [this]; rfl)⟩
    have HL := hide hl
    have HBY := hide hbyte
    have h16 : (s.size : Int) ≤ 15 := by omega
    rcases (show s.size = 1 ∨ 1 < s.size by omega) with h1 | h1
    all_goals
      have g1 : decide ((s.size : Int) < 1) = false := by simp; omega
      have g2 : decide (15 < (s.size : Int)) = false := by simp; omega
      try have hq1 := hq h1
      clear hz hq hg hbyte hl
      go_enter Tryd.func58, Tryd.ntmps58
      go_wp2
      go_loopw [4, 5] (fun n v wr => ∃ k : Nat, v = .int .i64 k ∧ n = .int .i64 (valN 0 ((bs s).take k) : Nat) ∧ k ≤ s.size ∧ Hid (digTo (bs s) k) ∧ ∃ x : After w.heap.size w, wr = x.val) (fun _ v _ => s.size - (intOf v).toNat)
      case atStart => exact ⟨0, rfl, rfl, Nat.zero_le _, hide (fun j c hj => absurd hj (by omega)), After.refl _ _, rfl⟩
      case round =>
        obtain ⟨k, rfl, rfl, hk, hd, x, rfl⟩ := hrel
        by_cases hlt : k < s.size
        · have hx := HBY.out k hlt
          have hv := valN_take_lt (by rw [HL.out]; omega) k hd.out
          have HNX := hide (valN_next hx)
          have hcb := byte_lt s[k]
          by_cases hdg : isDig s[k] = true
          · have hb := dig_bounds hdg
            have HD := hide (digTo_next hd.out hx hdg)
            have e : ((s[k].toNat - 48 : Nat) : Int) = (s[k].toNat : Int) - 48 := by omega
            have HE := hide e
            have hsz : ((bs s).take k).length ≤ 15 := by rw [List.length_take, HL.out]; omega
            obtain ⟨n, hn⟩ : ∃ n, n = valN 0 ((bs s).take k) := ⟨_, rfl⟩
            rw [← hn] at hv HNX ⊢
            clear hn hx hdg e hsz
            go_wp2
            exact ⟨⟨k + 1, by go_num, by rw [HNX.out]; simp [HE.out], by omega, HD, x, rfl⟩, by simp [intOf]; omega⟩
          · have HF := hide (intOk_bad hx (by simpa using hdg))
            have hnd : ¬ (48 ≤ (s[k].toNat : Int) ∧ (s[k].toNat : Int) ≤ 57) := fun h => hdg (by simp [isDig, digitB, h.1, h.2])
            clear hdg hx hv HNX
            rcases (show (s[k].toNat : Int) < 48 ∨ 57 < (s[k].toNat : Int) by omega) with h | h
            all_goals
              go_wp2
              go_ret2
              exact Gives.mk (by rw [HR.out, HF.out]; rfl) x.below
        · have hks : k = s.size := by omega
          have HV := hide (show ((valN 0 ((bs s).take k) : Nat) : Int) = intV (bs s) from by rw [hks, ← HL.out, List.take_length]; rfl)
          subst hks
          have HF := hide (show intOk (bs s) = true from intOk_of (by rw [HL.out]; omega) (by rw [HL.out]; omega) HZ.out (by rw [HL.out]; exact hd.out))
          go_wp2
          go_ret2
          exact Gives.mk (by rw [HR.out, HF.out, if_pos rfl, ← HV.out]; rfl) x.below
end Go.Proofs.YtemlaliackblkaaDoor
