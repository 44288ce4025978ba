/- decimal.numeral and decimal.symbol: what they compute. -/
import Derived.Test.YtnjbfhfjdhfdlaaGreatDoorDecTok
import Derived.Test.YtnjbfhfjdhfdlaaGreatDoorDecLib
namespace Go.Proofs.YtnjbfhfjdhfdlaaGreatDoor
open Go.RowKit

theorem DigTo.len {s : ByteArray} {i k : Nat} (h : DigTo (bs s) i k) (hi : i ≤ k) (hk : k ≤ s.size) (hn : ∀ c, (bs s)[k]? = some c → isDig c = false) : i + digLen ((bs s).drop i) = k := by
  rw [digLen_spec ((bs s).drop i) (k - i) (fun j hj => by simpa using h (i + j) (by omega) (by omega)) (fun c hc => hn c (by rw [List.getElem?_drop] at hc; rw [← hc]; congr 1; omega)) (by simp [bs_length]; omega)]
  omega
theorem bs_none {s : ByteArray} {k : Nat} (h : s.size ≤ k) (c : UInt8) : (bs s)[k]? = some c → isDig c = false := fun hc => by
  have := (List.getElem?_eq_some_iff.1 hc).1; rw [bs_length] at this; omega
theorem bs_not {s : ByteArray} {k : Nat} (h : k < s.size) (hd : digitB (s[k].toNat : Int) = false) (c : UInt8) : (bs s)[k]? = some c → isDig c = false := fun hc => by
  rw [bs_get s k h] at hc; injection hc with hc; rw [← hc]; exact hd
theorem numLen_no {l : List UInt8} {k : Nat} (h : digLen l = k) (hp : pointAt l k = false) : numLen l = k := by
  unfold numLen; rw [h, hp]; rfl
theorem numLen_yes {l : List UInt8} {k m : Nat} (h : digLen l = k) (hp : pointAt l k = true) (h2 : k + 1 + digLen (l.drop (k + 1)) = m) : numLen l = m := by
  unfold numLen; rw [h, hp]; exact h2
set_option maxHeartbeats 4000000 in
set_option maxRecDepth 100000 in
theorem numeral_any (s : ByteArray) (w : World) (hs : s.size ≤ 1000000) : Calls Tryz.prog 116 #[.string s] w (Gives w (.int .i64 (numLen (bs s)))) := by
  go_enter Tryz.func116, Tryz.ntmps116
  go_wp2
  go_loopw [3] (fun v wr => ∃ k : Nat, v = .int .i64 k ∧ k ≤ s.size ∧ Hid (DigTo (bs s) 0 k) ∧ ∃ x : After w.heap.size w, wr = x.val) (fun v _ => s.size - (intOf v).toNat)
  case atStart => exact ⟨0, rfl, by omega, hide (DigTo.start _ _), After.refl _ _, rfl⟩
  case round =>
    obtain ⟨k, rfl, hk, hall, x, rfl⟩ := hrel
    by_cases hlt : k < s.size
    · have hb := bs_get s k hlt
      cases hd : digitB (s[k].toNat : Int)
      · have HL := hide (show digLen (bs s) = k by have := hall.out.len (Nat.zero_le _) hk (bs_not hlt hd); simpa using this)
        have KD := hide (hd ▸ digit_any (s[k].toNat : Int) x.val)
        by_cases h1 : k + 1 < s.size
        · have hb1 := bs_get s (k + 1) h1
          cases h46 : ((s[k].toNat : Int) == 46)
          · have HP := hide (numLen_no HL.out (by unfold pointAt; rw [hb]; have : ¬ s[k] = 46 := fun e => by rw [e] at h46; simp at h46
                                                  simp [this]))
            clear hb hb1 hd
            go_wp2_with (go_at_call 102; refine (Gives.after (Nat.le_refl _) KD.out).mono ?_; rintro e w' ⟨rfl, y, rfl⟩)
            go_ret
            exact Gives.mk (congrArg (Value.int .i64) (by rw [HP.out])) (After.below _)
          · have e46 : (bs s)[k]? = some 46 := by rw [hb]; congr 1; rw [beq_iff_eq] at h46; exact UInt8.toNat_inj.1 (show s[k].toNat = 46 by omega)
            cases hd1 : digitB (s[k + 1].toNat : Int)
            · have HP := hide (numLen_no HL.out (by unfold pointAt; rw [e46, hb1]; simp [isDig, hd1]))
              have KD1 := hide fun x : After w.heap.size w => Gives.after (x := x) (Nat.le_refl _) (hd1 ▸ digit_any (s[k + 1].toNat : Int) x.val)
              clear hb hb1 hd hd1 e46
              go_wp2_with fail
              refine (Gives.after (Nat.le_refl _) KD.out).mono ?_
              rintro e w' ⟨rfl, y, rfl⟩
              go_wp2_with fail
              refine (KD1.out y).mono ?_
              rintro e w' ⟨rfl, y2, rfl⟩
              go_wp2
              go_ret
              exact Gives.mk (congrArg (Value.int .i64) (by rw [HP.out])) (After.below _)
            · have HP := hide (show pointAt (bs s) k = true by unfold pointAt; rw [e46, hb1]; simpa [isDig] using hd1)
              have KD1 := hide fun x : After w.heap.size w => Gives.after (x := x) (Nat.le_refl _) (hd1 ▸ digit_any (s[k + 1].toNat : Int) x.val)
              clear hb hb1 hd hd1 e46
              go_wp2_with fail
              refine (Gives.after (Nat.le_refl _) KD.out).mono ?_
              rintro e w' ⟨rfl, y, rfl⟩
              go_wp2_with fail
              refine (KD1.out y).mono ?_
              rintro e w' ⟨rfl, y2, rfl⟩
              go_wp2
              go_loopw [3] (fun v wr => ∃ m : Nat, v = .int .i64 m ∧ k + 1 ≤ m ∧ m ≤ s.size ∧ Hid (DigTo (bs s) (k + 1) m) ∧ ∃ x : After w.heap.size w, wr = x.val) (fun v _ => s.size - (intOf v).toNat)
              case atStart => exact ⟨k + 1, by go_num, Nat.le_refl _, by omega, hide (DigTo.start _ _), _, rfl⟩
              case round =>
                obtain ⟨m, rfl, hm1, hm, hall2, x2, rfl⟩ := hrel
                by_cases hlt2 : m < s.size
                · have hb2 := bs_get s m hlt2
                  cases hd2 : digitB (s[m].toNat : Int)
                  · have HE := hide (numLen_yes HL.out HP.out (hall2.out.len hm1 hm (bs_not hlt2 hd2)))
                    have KD2 := hide (hd2 ▸ digit_any (s[m].toNat : Int) x2.val)
                    clear hb2 hd2
                    go_wp2_with (go_at_call 102; refine (Gives.after (Nat.le_refl _) KD2.out).mono ?_; rintro e w' ⟨rfl, y, rfl⟩)
                    go_ret
                    exact Gives.mk (congrArg (Value.int .i64) (by rw [HE.out])) (After.below _)
                  · have HN := hide (hall2.out.next hb2 hd2)
                    have KD2 := hide (hd2 ▸ digit_any (s[m].toNat : Int) x2.val)
                    clear hb2 hd2
                    go_wp2_with fail
                    refine (Gives.after (Nat.le_refl _) KD2.out).mono ?_
                    rintro e w' ⟨rfl, y, rfl⟩
                    go_wp2
                    exact ⟨⟨m + 1, by go_num, by omega, by omega, HN, y, rfl⟩, by simp [intOf]; omega⟩
                · have HE := hide (numLen_yes HL.out HP.out (hall2.out.len hm1 hm (bs_none (by omega))))
                  go_wp2
                  go_ret
                  exact Gives.mk (congrArg (Value.int .i64) (by rw [HE.out])) (After.below _)
        · have HP := hide (numLen_no HL.out (by unfold pointAt; rw [List.getElem?_eq_none (i := k + 1) (by rw [bs_length]; omega)]; simp))
          clear hb hd
          go_wp2_with (go_at_call 102; refine (Gives.after (Nat.le_refl _) KD.out).mono ?_; rintro e w' ⟨rfl, y, rfl⟩)
          go_ret
          exact Gives.mk (congrArg (Value.int .i64) (by rw [HP.out])) (After.below _)
      · have HN := hide (hall.out.next hb hd)
        have KD := hide (hd ▸ digit_any (s[k].toNat : Int) x.val)
        clear hb hd
        go_wp2_with fail
        refine (Gives.after (Nat.le_refl _) KD.out).mono ?_
        rintro e w' ⟨rfl, y, rfl⟩
        go_wp2
        exact ⟨⟨k + 1, by go_num, by omega, HN, y, rfl⟩, by simp [intOf]; omega⟩
    · have HL := hide (show digLen (bs s) = k by have := hall.out.len (Nat.zero_le _) hk (bs_none (by omega)); simpa using this)
      have HP := hide (numLen_no HL.out (by unfold pointAt; rw [List.getElem?_eq_none (i := k) (by rw [bs_length]; omega)]; rfl))
      have h1 : ¬ k + 1 < s.size := by omega
      go_wp2
      go_ret
      exact Gives.mk (congrArg (Value.int .i64) (by rw [HP.out])) (After.below _)

theorem oneB_fin : ∀ k : Fin 256, decide (0 ≤ Lib.indexByte alone (UInt8.ofNat k.val)) = oneB (UInt8.ofNat k.val) := by decide +kernel
theorem oneB_index (c : UInt8) : decide (0 ≤ Lib.indexByte alone c) = oneB c := by
  have := oneB_fin ⟨c.toNat, c.toNat_lt⟩
  simpa using this
theorem twoB_or {l : List UInt8} (h1 : Lib.hasPrefix l [62, 61] = false) (h2 : Lib.hasPrefix l [60, 61] = false) (h3 : Lib.hasPrefix l [58, 61] = false) : twoB l = false := by
  unfold twoB
  unfold Lib.hasPrefix at h1 h2 h3
  rw [h1, h2, h3]; rfl
theorem symLen_two {l : List UInt8} (h : twoB l = true) : symLen l = 2 := by simp [symLen, h]
theorem symLen_one {s : ByteArray} (h0 : 0 < s.size) (h : twoB (bs s) = false) : symLen (bs s) = if (0 : Int) ≤ Lib.indexByte alone s[0] then 1 else 0 := by
  have e : (bs s).headD 0 = s[0] := by rw [List.headD_eq_head?_getD, head_of_get h0]; rfl
  unfold symLen
  rw [h, e, ← oneB_index]
  simp
theorem bool_or (b : Bool) : b = false ∨ b = true := by cases b <;> simp
set_option maxHeartbeats 4000000 in
set_option maxRecDepth 100000 in
theorem symbol_any (s : ByteArray) (h0 : 0 < s.size) (w : World) : Calls Tryz.prog 117 #[.string s] w (Gives w (.int .i64 (symLen (bs s)))) := by
  obtain ⟨W, hW, hWs, hWb, hWh⟩ := boxed w (.cells #[.string ⟨#[62, 61]⟩, .string ⟨#[60, 61]⟩, .string ⟨#[58, 61]⟩] 9)
  have hc0 := fun y : After W.heap.size W => After.cells hWh (by omega) y 0 (.string ⟨#[62, 61]⟩) rfl
  have hc1 := fun y : After W.heap.size W => After.cells hWh (by omega) y 1 (.string ⟨#[60, 61]⟩) rfl
  have hc2 := fun y : After W.heap.size W => After.cells hWh (by omega) y 2 (.string ⟨#[58, 61]⟩) rfl
  have hbd : ∀ y : After W.heap.size W, Below w.heap.size w y.val := fun y => hWb.trans (y.below.mono (by omega))
  have KP := hide fun (p : ByteArray) (y : After W.heap.size W) => Gives.after (x := y) (Nat.le_refl _) (hasPrefix_any s p y.val)
  have HW := hide hW
  have HBD := hide hbd
  have HC := hide (And.intro hc0 (And.intro hc1 hc2))
  clear hW hWs hWh hWb hbd hc0 hc1 hc2
  go_enter Tryz.func117, Tryz.ntmps117
  go_wp2
  rw [← HW.out]
  go_loopw [7] (fun v wr => ∃ y : After W.heap.size W, wr = y.val ∧ (v = .int .i64 0 ∨ (v = .int .i64 1 ∧ Hid (Lib.hasPrefix (bs s) [62, 61] = false)) ∨ (v = .int .i64 2 ∧ Hid (Lib.hasPrefix (bs s) [62, 61] = false ∧ Lib.hasPrefix (bs s) [60, 61] = false)) ∨ (v = .int .i64 3 ∧ Hid (twoB (bs s) = false)))) (fun v _ => 3 - (intOf v).toNat)
  case atStart => exact ⟨After.refl _ _, rfl, Or.inl rfl⟩
  case round =>
    obtain ⟨y, rfl, hv⟩ := hrel
    obtain ⟨c0, c1, c2⟩ := HC.out
    have c0 := c0 y
    have c1 := c1 y
    have c2 := c2 y
    rcases hv with rfl | ⟨rfl, hp⟩ | ⟨rfl, hp⟩ | ⟨rfl, hp⟩
    · clear c1 c2
      rcases bool_or (Lib.hasPrefix (bs s) [62, 61]) with h | h
      · have K := hide (by have := KP.out ⟨#[62, 61]⟩ y; rw [← bs_data, show (⟨#[62, 61]⟩ : ByteArray).data.toList = [62, 61] from rfl, h] at this; exact this)
        have H := hide h
        clear h
        go_wp2_with fail
        refine K.out.mono ?_
        rintro e w' ⟨rfl, y2, rfl⟩
        go_wp2
        exact ⟨⟨y2, rfl, Or.inr (Or.inl ⟨by go_num, H⟩)⟩, by simp [intOf]⟩
      · have K := hide (by have := KP.out ⟨#[62, 61]⟩ y; rw [← bs_data, show (⟨#[62, 61]⟩ : ByteArray).data.toList = [62, 61] from rfl, h] at this; exact this)
        have H := hide (symLen_two (l := bs s) (by unfold twoB; unfold Lib.hasPrefix at h; rw [h]; rfl))
        clear h
        go_wp2_with fail
        refine K.out.mono ?_
        rintro e w' ⟨rfl, y2, rfl⟩
        go_wp2
        go_ret
        exact Gives.mk (congrArg (Value.int .i64) (by rw [H.out]; rfl)) (HBD.out y2)
    · clear c0 c2
      rcases bool_or (Lib.hasPrefix (bs s) [60, 61]) with h | h
      · have K := hide (by have := KP.out ⟨#[60, 61]⟩ y; rw [← bs_data, show (⟨#[60, 61]⟩ : ByteArray).data.toList = [60, 61] from rfl, h] at this; exact this)
        have H := hide (And.intro hp.out h)
        clear h
        go_wp2_with fail
        refine K.out.mono ?_
        rintro e w' ⟨rfl, y2, rfl⟩
        go_wp2
        exact ⟨⟨y2, rfl, Or.inr (Or.inr (Or.inl ⟨by go_num, H⟩))⟩, by simp [intOf]⟩
      · have K := hide (by have := KP.out ⟨#[60, 61]⟩ y; rw [← bs_data, show (⟨#[60, 61]⟩ : ByteArray).data.toList = [60, 61] from rfl, h] at this; exact this)
        have H := hide (symLen_two (l := bs s) (by unfold twoB; unfold Lib.hasPrefix at h; rw [h]; simp))
        clear h
        go_wp2_with fail
        refine K.out.mono ?_
        rintro e w' ⟨rfl, y2, rfl⟩
        go_wp2
        go_ret
        exact Gives.mk (congrArg (Value.int .i64) (by rw [H.out]; rfl)) (HBD.out y2)
    · clear c0 c1
      rcases bool_or (Lib.hasPrefix (bs s) [58, 61]) with h | h
      · have K := hide (by have := KP.out ⟨#[58, 61]⟩ y; rw [← bs_data, show (⟨#[58, 61]⟩ : ByteArray).data.toList = [58, 61] from rfl, h] at this; exact this)
        have H := hide (twoB_or hp.out.1 hp.out.2 h)
        clear h
        go_wp2_with fail
        refine K.out.mono ?_
        rintro e w' ⟨rfl, y2, rfl⟩
        go_wp2
        exact ⟨⟨y2, rfl, Or.inr (Or.inr (Or.inr ⟨by go_num, H⟩))⟩, by simp [intOf]⟩
      · have K := hide (by have := KP.out ⟨#[58, 61]⟩ y; rw [← bs_data, show (⟨#[58, 61]⟩ : ByteArray).data.toList = [58, 61] from rfl, h] at this; exact this)
        have H := hide (symLen_two (l := bs s) (by unfold twoB; unfold Lib.hasPrefix at h; rw [h]; simp))
        clear h
        go_wp2_with fail
        refine K.out.mono ?_
        rintro e w' ⟨rfl, y2, rfl⟩
        go_wp2
        go_ret
        exact Gives.mk (congrArg (Value.int .i64) (by rw [H.out]; rfl)) (HBD.out y2)
    · clear c0 c1 c2
      obtain ⟨ix, hix⟩ : ∃ ix : Int, ix = Lib.indexByte alone s[0] := ⟨_, rfl⟩
      have K := hide (by have := Gives.after (x := y) (Nat.le_refl _) (indexByte_any ⟨#[45, 43, 58, 44, 59, 47, 61, 40, 41, 60, 62, 42]⟩ (s[0].toNat : Int) y.val); rw [show (⟨#[45, 43, 58, 44, 59, 47, 61, 40, 41, 60, 62, 42]⟩ : ByteArray).data.toList = alone from rfl, show ((s[0].toNat : Int)).toNat.toUInt8 = s[0] by simp, ← hix] at this; exact this)
      have H := hide (symLen_one h0 hp.out)
      rw [← hix] at H
      clear hix
      by_cases hx : 0 ≤ ix
      · go_wp2_with fail
        refine K.out.mono ?_
        rintro e w' ⟨rfl, y2, rfl⟩
        go_wp2
        go_ret
        exact Gives.mk (congrArg (Value.int .i64) (by rw [H.out]; simp [hx])) (HBD.out y2)
      · go_wp2_with fail
        refine K.out.mono ?_
        rintro e w' ⟨rfl, y2, rfl⟩
        go_wp2
        go_ret
        exact Gives.mk (congrArg (Value.int .i64) (by rw [H.out, if_neg (show ¬ (0 : Int) ≤ ix by omega)]; rfl)) (HBD.out y2)
end Go.Proofs.YtnjbfhfjdhfdlaaGreatDoor
