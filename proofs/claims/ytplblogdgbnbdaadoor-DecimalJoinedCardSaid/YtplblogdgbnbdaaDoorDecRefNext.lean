/- loftblockref01.next: what it computes. -/
import Derived.Test.YtplblogdgbnbdaaDoorDecRefSym
namespace Go.Proofs.YtplblogdgbnbdaaDoor
open Go.RowKit

/-- the kind and the length of what a text begins with, -1 where it is wrong -/
def nextE (c : UInt8) (l : List UInt8) : Int × Nat :=
  if (((c.toNat : Int) == 32) || ((c.toNat : Int) == 9)) = true then (0, 1)
  else if ((c.toNat : Int) == 10) = true then (4, 1)
  else if ((c.toNat : Int) == 35) = true then (0, comLen l)
  else if letterB (c.toNat : Int) = true then (if wordLen l ≤ 20 then (1, wordLen l) else (-1, wordLen l))
  else if digitB (c.toNat : Int) = true then (2, numLen l)
  else if symLen l = 0 then (-1, 1) else (3, symLen l)
def tkOf (e : Int × Nat) : Tk := if e.1 < 0 then .bad else if e.1 = 4 then .line else if e.1 = 0 then .blank e.2 else .tok e.1 e.2
theorem nextTk_E (c : UInt8) (r : List UInt8) : nextTk (c :: r) = tkOf (nextE c (c :: r)) := by
  have h := nextTk_at (s := ⟨(c :: r).toArray⟩) (by rw [mk_size]; simp)
  rw [bs_mk] at h
  rw [h]
  unfold nextE
  have e : (⟨(c :: r).toArray⟩ : ByteArray)[0]'(by rw [mk_size]; simp) = c := rfl
  rw [e]
  split
  · rfl
  · split
    · rfl
    · split
      · simp [tkOf]
      · split
        · split <;> simp [tkOf]
        · split
          · simp [tkOf]
          · split <;> simp [tkOf]
theorem nextE_blank {c : UInt8} {l : List UInt8} (h : ((c.toNat : Int) == 32) = true ∨ ((c.toNat : Int) == 9) = true) : nextE c l = (0, 1) := by
  unfold nextE
  rw [if_pos (by rw [Bool.or_eq_true]; exact h)]
section
variable {c : UInt8} {l : List UInt8} (h32 : ((c.toNat : Int) == 32) = false) (h9 : ((c.toNat : Int) == 9) = false)
include h32 h9
theorem nextE_line (h10 : ((c.toNat : Int) == 10) = true) : nextE c l = (4, 1) := by unfold nextE; rw [h32, h9, h10]; rfl
variable (h10 : ((c.toNat : Int) == 10) = false)
include h10
theorem nextE_com (h35 : ((c.toNat : Int) == 35) = true) : nextE c l = (0, comLen l) := by unfold nextE; rw [h32, h9, h10, h35]; rfl
variable (h35 : ((c.toNat : Int) == 35) = false)
include h35
theorem nextE_word (hl : letterB (c.toNat : Int) = true) : nextE c l = (if wordLen l ≤ 20 then (1, wordLen l) else (-1, wordLen l)) := by unfold nextE; rw [h32, h9, h10, h35, hl]; rfl
variable (hl : letterB (c.toNat : Int) = false)
include hl
theorem nextE_num (hd : digitB (c.toNat : Int) = true) : nextE c l = (2, numLen l) := by unfold nextE; rw [h32, h9, h10, h35, hl, hd]; rfl
theorem nextE_sym (hd : digitB (c.toNat : Int) = false) : nextE c l = (if symLen l = 0 then (-1, 1) else (3, symLen l)) := by unfold nextE; rw [h32, h9, h10, h35, hl, hd]; rfl
end
theorem not_46 (c : UInt8) (h : ((c.toNat : Int) == 46) = false) : (some c == some (46 : UInt8)) = false := by
  have : ¬ c = 46 := fun e => by rw [e] at h; simp at h
  simpa using this
/-- no end of a line from place i to place k -/
def ComTo (l : List UInt8) (i k : Nat) : Prop := ∀ m, i ≤ m → m < k → ∃ c, l[m]? = some c ∧ c ≠ 10
theorem ComTo.len {s : ByteArray} {i k : Nat} (h : ComTo (bs s) i k) (hi : i ≤ k) (hk : k ≤ s.size) (hn : ∀ c, (bs s)[k]? = some c → c = 10) : i + comLen ((bs s).drop i) = k := by
  rw [comLen_spec ((bs s).drop i) (k - i) (fun j hj => by simpa using h (i + j) (by omega) (by omega)) (fun c hc => hn c (by rw [List.getElem?_drop] at hc; rw [← hc]; congr 1; omega)) (by simp [bs_length]; omega)]
  omega
set_option maxHeartbeats 8000000 in
set_option maxRecDepth 100000 in
theorem refNext_any (s : ByteArray) (i : Nat) (hi : i < s.size) (hs : s.size ≤ 1000000) (w : World) : Calls Tryd.prog 51 #[.string s, .int .i64 i] w (Gives w (.tuple #[.int .i64 (nextE s[i] ((bs s).drop i)).1, .int .i64 (i + (nextE s[i] ((bs s).drop i)).2)])) := by
  have fin : ∀ (e : Int × Nat) (a b : Int), nextE s[i] ((bs s).drop i) = e → a = e.1 → b = i + e.2 → Value.tuple #[.int .i64 a, .int .i64 b] = Value.tuple #[.int .i64 (nextE s[i] ((bs s).drop i)).1, .int .i64 (i + (nextE s[i] ((bs s).drop i)).2)] := by
    intro e a b h h1 h2; rw [h, h1, h2]
  have FIN := hide fin
  clear fin
  cases h32 : ((s[i].toNat : Int) == 32)
  · cases h9 : ((s[i].toNat : Int) == 9)
    · cases h10 : ((s[i].toNat : Int) == 10)
      · cases h35 : ((s[i].toNat : Int) == 35)
        · rcases bool_or (letterB (s[i].toNat : Int)) with hl | hl
          · have KL := hide (Gives.first (hl ▸ refLetter_any (s[i].toNat : Int) w))
            rcases bool_or (digitB (s[i].toNat : Int)) with hd | hd
            · have KD := hide fun y : After w.heap.size w => Gives.after (x := y) (Nat.le_refl _) (hd ▸ refDigit_any (s[i].toNat : Int) y.val)
              have HE := hide (nextE_sym (l := (bs s).drop i) h32 h9 h10 h35 hl hd)
              have KS := hide fun y : After w.heap.size w => Gives.after (x := y) (Nat.le_refl _) (refSymbol_any s i hi hs y.val)
              have hsl : symLen ((bs s).drop i) ≤ 2 := by
                unfold symLen
                split
                · omega
                · split <;> omega
              clear hl hd
              generalize hsy : symLen ((bs s).drop i) = n at *
              clear hsy
              by_cases hn : n = 0
              · subst hn
                go_enter Tryd.func51, Tryd.ntmps51
                go_wp2_with fail
                refine KL.out.mono ?_
                rintro e w1 ⟨rfl, y1, rfl⟩
                go_wp2_with fail
                refine (KD.out y1).mono ?_
                rintro e w1 ⟨rfl, y2, rfl⟩
                go_wp2_with fail
                refine (KS.out y2).mono ?_
                rintro e w1 ⟨rfl, y3, rfl⟩
                go_wp2
                go_ret2
                exact Gives.mk (FIN.out _ _ _ (HE.out.trans (if_pos (by first | rfl | trivial))) rfl rfl) y3.below
              · have hn' : 0 < n := by omega
                go_enter Tryd.func51, Tryd.ntmps51
                go_wp2_with fail
                refine KL.out.mono ?_
                rintro e w1 ⟨rfl, y1, rfl⟩
                go_wp2_with fail
                refine (KD.out y1).mono ?_
                rintro e w1 ⟨rfl, y2, rfl⟩
                go_wp2_with fail
                refine (KS.out y2).mono ?_
                rintro e w1 ⟨rfl, y3, rfl⟩
                go_wp2
                go_ret2
                exact Gives.mk (FIN.out _ _ _ (HE.out.trans (if_neg hn)) rfl rfl) y3.below
            · have KD := hide fun y : After w.heap.size w => Gives.after (x := y) (Nat.le_refl _) (hd ▸ refDigit_any (s[i].toNat : Int) y.val)
              have HE := hide (nextE_num (l := (bs s).drop i) h32 h9 h10 h35 hl hd)
              have KF := hide fun (j : Nat) (hj : j ≤ s.size) (y : After w.heap.size w) => Gives.after (x := y) (Nat.le_refl _) (refFigures_any s j hj hs y.val)
              have hdl := digLen_le ((bs s).drop i)
              rw [List.length_drop, bs_length] at hdl
              have hgi : ∀ j, ((bs s).drop i)[j]? = (bs s)[i + j]? := fun j => by rw [List.getElem?_drop]
              obtain ⟨j, hj⟩ : ∃ j, j = i + digLen ((bs s).drop i) := ⟨_, rfl⟩
              have KF1 := hide fun y : After w.heap.size w => (by have := KF.out i (by omega) y; rw [show ((i : Int) + (digLen ((bs s).drop i) : Nat)) = (j : Int) by omega] at this; exact this)
              have hjs : j ≤ s.size := by omega
              have hpt : pointAt ((bs s).drop i) (digLen ((bs s).drop i)) = ((bs s)[j]? == some 46 && (match (bs s)[j + 1]? with | some c => isDig c | none => false)) := by
                unfold pointAt; rw [hgi, hgi, ← hj, show i + (digLen ((bs s).drop i) + 1) = j + 1 by omega]; cases (bs s)[j + 1]? <;> rfl
              have hno : pointAt ((bs s).drop i) (digLen ((bs s).drop i)) = false → i + numLen ((bs s).drop i) = j := fun h => by rw [numLen_no rfl h]; omega
              have hyes : pointAt ((bs s).drop i) (digLen ((bs s).drop i)) = true → i + numLen ((bs s).drop i) = j + 1 + digLen ((bs s).drop (j + 1)) := fun h => by
                rw [numLen_yes rfl h rfl, List.drop_drop, show i + (digLen ((bs s).drop i) + 1) = j + 1 by omega]; omega
              rw [hpt] at hno hyes
              have HNO := hide hno
              have HYES := hide hyes
              clear hl hd hdl hj hgi hpt hno hyes
              by_cases h1 : j + 1 < s.size
              · have hb := bs_get s j (by omega)
                have hb1 := bs_get s (j + 1) h1
                have hjl : j < s.size := by omega
                cases h46 : ((s[j].toNat : Int) == 46)
                · have HN := hide (HNO.out (by rw [hb, not_46 _ h46]; rfl))
                  clear hb hb1
                  go_enter Tryd.func51, Tryd.ntmps51
                  go_wp2_with fail
                  refine KL.out.mono ?_
                  rintro e w1 ⟨rfl, y1, rfl⟩
                  go_wp2_with fail
                  refine (KD.out y1).mono ?_
                  rintro e w1 ⟨rfl, y2, rfl⟩
                  go_wp2_with fail
                  refine (KF1.out y2).mono ?_
                  rintro e w1 ⟨rfl, y3, rfl⟩
                  go_wp2
                  go_ret2
                  exact Gives.mk (FIN.out _ _ _ HE.out rfl (by have := HN.out; omega)) y3.below
                · have e46 : (bs s)[j]? = some 46 := by rw [hb]; congr 1; exact (byte_test s[j] 46 (by decide)).2 h46
                  rcases bool_or (digitB (s[j + 1].toNat : Int)) with hd1 | hd1
                  · have HN := hide (HNO.out (by rw [e46, hb1]; simp [isDig, hd1]))
                    have KD1 := hide fun y : After w.heap.size w => Gives.after (x := y) (Nat.le_refl _) (hd1 ▸ refDigit_any (s[j + 1].toNat : Int) y.val)
                    clear hb hb1 hd1 e46
                    go_enter Tryd.func51, Tryd.ntmps51
                    go_wp2_with fail
                    refine KL.out.mono ?_
                    rintro e w1 ⟨rfl, y1, rfl⟩
                    go_wp2_with fail
                    refine (KD.out y1).mono ?_
                    rintro e w1 ⟨rfl, y2, rfl⟩
                    go_wp2_with fail
                    refine (KF1.out y2).mono ?_
                    rintro e w1 ⟨rfl, y3, rfl⟩
                    go_wp2_with fail
                    refine (KD1.out y3).mono ?_
                    rintro e w1 ⟨rfl, y4, rfl⟩
                    go_wp2
                    go_ret2
                    exact Gives.mk (FIN.out _ _ _ HE.out rfl (by have := HN.out; omega)) y4.below
                  · have HN := hide (HYES.out (by rw [e46, hb1]; simpa [isDig] using hd1))
                    have KD1 := hide fun y : After w.heap.size w => Gives.after (x := y) (Nat.le_refl _) (hd1 ▸ refDigit_any (s[j + 1].toNat : Int) y.val)
                    clear hb hb1 hd1 e46
                    go_enter Tryd.func51, Tryd.ntmps51
                    go_wp2_with fail
                    refine KL.out.mono ?_
                    rintro e w1 ⟨rfl, y1, rfl⟩
                    go_wp2_with fail
                    refine (KD.out y1).mono ?_
                    rintro e w1 ⟨rfl, y2, rfl⟩
                    go_wp2_with fail
                    refine (KF1.out y2).mono ?_
                    rintro e w1 ⟨rfl, y3, rfl⟩
                    go_wp2_with fail
                    refine (KD1.out y3).mono ?_
                    rintro e w1 ⟨rfl, y4, rfl⟩
                    go_wp2_with fail
                    refine (KF.out (j + 1) (by omega) y4).mono ?_
                    rintro e w1 ⟨rfl, y5, rfl⟩
                    go_wp2
                    go_ret2
                    exact Gives.mk (FIN.out _ _ _ HE.out rfl (by have := HN.out; omega)) y5.below
              · have HN := hide (HNO.out (by rw [List.getElem?_eq_none (i := j + 1) (by rw [bs_length]; omega)]; simp))
                go_enter Tryd.func51, Tryd.ntmps51
                go_wp2_with fail
                refine KL.out.mono ?_
                rintro e w1 ⟨rfl, y1, rfl⟩
                go_wp2_with fail
                refine (KD.out y1).mono ?_
                rintro e w1 ⟨rfl, y2, rfl⟩
                go_wp2_with fail
                refine (KF1.out y2).mono ?_
                rintro e w1 ⟨rfl, y3, rfl⟩
                go_wp2
                go_ret2
                exact Gives.mk (FIN.out _ _ _ HE.out rfl (by have := HN.out; omega)) y3.below
          · have KL := hide (Gives.first (hl ▸ refLetter_any (s[i].toNat : Int) w))
            have HE := hide (nextE_word (l := (bs s).drop i) h32 h9 h10 h35 hl)
            have KW := hide fun y : After w.heap.size w => Gives.after (x := y) (Nat.le_refl _) (refWord_any s i (by omega) y.val (by unfold maxLen; omega))
            have hwl := wordLen_le ((bs s).drop i)
            rw [List.length_drop, bs_length] at hwl
            clear hl
            generalize wordLen ((bs s).drop i) = n at *
            by_cases h20 : n ≤ 20
            · have h20' : ¬ 20 < (n : Int) := by omega
              go_enter Tryd.func51, Tryd.ntmps51
              go_wp2_with fail
              refine KL.out.mono ?_
              rintro e w1 ⟨rfl, y1, rfl⟩
              go_wp2_with fail
              refine (KW.out y1).mono ?_
              rintro e w1 ⟨rfl, y2, rfl⟩
              go_wp2
              go_ret2
              exact Gives.mk (FIN.out _ _ _ (HE.out.trans (if_pos h20)) rfl rfl) y2.below
            · have h20' : 20 < (n : Int) := by omega
              go_enter Tryd.func51, Tryd.ntmps51
              go_wp2_with fail
              refine KL.out.mono ?_
              rintro e w1 ⟨rfl, y1, rfl⟩
              go_wp2_with fail
              refine (KW.out y1).mono ?_
              rintro e w1 ⟨rfl, y2, rfl⟩
              go_wp2
              go_ret2
              exact Gives.mk (FIN.out _ _ _ (HE.out.trans (if_neg h20)) rfl rfl) y2.below
        · have HE := hide (nextE_com (l := (bs s).drop i) h32 h9 h10 h35)
          go_enter Tryd.func51, Tryd.ntmps51
          go_wp2
          clear h32 h9 h10 h35
          go_loopw [1] (fun v wr => ∃ k : Nat, v = .int .i64 k ∧ i ≤ k ∧ k ≤ s.size ∧ Hid (ComTo (bs s) i k) ∧ wr = w) (fun v _ => s.size - (intOf v).toNat)
          case atStart => exact ⟨i, rfl, Nat.le_refl _, by omega, hide (fun m h1 h2 => by omega), rfl⟩
          case round =>
            obtain ⟨k, rfl, hik, hk, hall, rfl⟩ := hrel
            by_cases hlt : k < s.size
            · have hb := bs_get s k hlt
              cases hq : ((s[k].toNat : Int) == 10)
              · have hq' : ((s[k].toNat : Int) != 10) = true := by rw [bne, hq]; rfl
                have HN := hide (show ComTo (bs s) i (k + 1) from fun m h1 h2 => by
                  by_cases e : m = k
                  · subst e; exact ⟨_, hb, fun e => by rw [e] at hq; simp at hq⟩
                  · exact hall.out m h1 (by omega))
                clear hb
                go_wp2
                exact ⟨⟨k + 1, by go_num, by omega, by omega, HN, by first | rfl | trivial⟩, by simp [intOf]; omega⟩
              · have hq' : ((s[k].toNat : Int) != 10) = false := by rw [bne, hq]; rfl
                have HC := hide (hall.out.len hik hk (fun c hc => by rw [hb] at hc; injection hc with hc; rw [← hc]; exact (byte_test s[k] 10 (by decide)).2 hq))
                clear hb
                go_wp2
                go_ret2
                exact Gives.mk (FIN.out _ _ _ HE.out rfl (by have := HC.out; omega)) (Below.refl _ _)
            · have HC := hide (hall.out.len hik hk (fun c hc => by have := (List.getElem?_eq_some_iff.1 hc).1; rw [bs_length] at this; omega))
              go_wp2
              go_ret2
              exact Gives.mk (FIN.out _ _ _ HE.out rfl (by have := HC.out; omega)) (Below.refl _ _)
      · have HE := hide (nextE_line (l := (bs s).drop i) h32 h9 h10)
        go_enter Tryd.func51, Tryd.ntmps51
        go_wp2
        go_ret2
        exact Gives.mk (FIN.out _ _ _ HE.out rfl rfl) (Below.refl _ _)
    · have HE := hide (nextE_blank (l := (bs s).drop i) (Or.inr h9))
      go_enter Tryd.func51, Tryd.ntmps51
      go_wp2
      go_ret2
      exact Gives.mk (FIN.out _ _ _ HE.out rfl rfl) (Below.refl _ _)
  · have HE := hide (nextE_blank (l := (bs s).drop i) (Or.inl h32))
    go_enter Tryd.func51, Tryd.ntmps51
    go_wp2
    go_ret2
    exact Gives.mk (FIN.out _ _ _ HE.out rfl rfl) (Below.refl _ _)
end Go.Proofs.YtplblogdgbnbdaaDoor
