/- decimal.Parse: what it computes. -/
import Derived.Test.YtplblogdgbnbdaaDoorDecNum
import Derived.Test.YtplblogdgbnbdaaDoorDecFormat
import Derived.Lib.ConvBytes
namespace Go.Proofs.YtplblogdgbnbdaaDoor
open Go.RowKit

theorem UpTo.list_all {l : List UInt8} {k : Nat} (h : UpTo (fun _ c => isDig c) l k) (hk : l.length ≤ k) : l.all isDig = true := by
  rw [List.all_eq_true]
  intro c hc
  obtain ⟨j, hj, e⟩ := List.getElem_of_mem hc
  exact h j c (by omega) (by rw [← e, List.getElem?_eq_getElem])
theorem allDig_no {l : List UInt8} {k : Nat} {c : UInt8} (hc : l[k]? = some c) (h : isDig c = false) : allDig l = false := by
  unfold allDig
  have : l.all isDig = false := by
    rw [List.all_eq_false]
    exact ⟨c, List.mem_iff_getElem?.2 ⟨k, hc⟩, by simp [h]⟩
  rw [this, Bool.and_false]
theorem allDig_empty {s : ByteArray} (h : s.size = 0) : allDig (bs s) = false := by
  have : bs s = [] := List.eq_nil_of_length_eq_zero (by rw [bs_length]; exact h)
  rw [this]; rfl
theorem allDig_yes {s : ByteArray} (h : 0 < s.size) (h2 : UpTo (fun _ c => isDig c) (bs s) s.size) : allDig (bs s) = true := by
  have : (bs s).isEmpty = false := by
    have := bs_length s
    cases hb : bs s with
    | nil => rw [hb] at this; simp at this; omega
    | cons => rfl
  unfold allDig
  rw [this, h2.list_all (by rw [bs_length]; omega)]
  rfl
set_option maxHeartbeats 1000000 in
theorem all_any (s : ByteArray) (w : World) (hs : s.size ≤ maxLen) : Calls Tryd.prog 38 #[.string s] w (Gives w (.bool (allDig (bs s)))) := by
  unfold maxLen at hs
  rcases Nat.eq_zero_or_pos s.size with h0 | h0
  · have HE := hide (allDig_empty h0)
    have hn : s.toList = [] := toList_nil h0
    have h0' : ¬ (0 < (s.size : Int)) := by omega
    have H0 := hide h0
    clear h0
    go_enter Tryd.func38, Tryd.ntmps38
    go_wp2
    go_loopw [6] (fun v wr => v = .int .i64 0 ∧ wr = w) (fun _ _ => 0)
    case atStart => exact ⟨rfl, rfl⟩
    case round =>
      obtain ⟨rfl, rfl⟩ := hrel
      go_wp2
      go_ret
      exact Gives.mk (congrArg Value.bool HE.out.symm) (Below.refl _ _)
  · have hn := toList_isEmpty h0
    have hn' := toList_ne h0
    go_enter Tryd.func38, Tryd.ntmps38
    go_wp2
    go_loopw [6] (fun v wr => ∃ k : Nat, v = .int .i64 k ∧ k ≤ s.size ∧ Hid (UpTo (fun _ c => isDig c) (bs s) k) ∧ ∃ x : After w.heap.size w, wr = x.val) (fun v _ => s.size - (intOf v).toNat)
    case atStart => exact ⟨0, rfl, by omega, hide (UpTo.zero _ _), After.refl _ _, rfl⟩
    case round =>
      obtain ⟨k, rfl, hk, hall, x, rfl⟩ := hrel
      by_cases hlt : k < s.size
      · have hb := bs_get s k hlt
        cases hd : digitB (s[k].toNat : Int)
        · have HE := hide (allDig_no hb hd)
          have KD := hide (hd ▸ digit_any (s[k].toNat : Int) x.val)
          clear hb hd
          go_wp2_with fail
          refine (Gives.after (Nat.le_refl _) KD.out).mono ?_
          rintro e w' ⟨rfl, y, rfl⟩
          go_wp2
          go_ret
          exact Gives.mk (congrArg Value.bool HE.out.symm) y.below
        · have HN := hide (hall.out.next hb hd)
          have KD := hide (hd ▸ digit_any (s[k].toNat : Int) x.val)
          clear hb hd
          go_wp2_with fail
          refine (Gives.after (Nat.le_refl _) KD.out).mono ?_
          rintro e w' ⟨rfl, y, rfl⟩
          go_wp2
          go_roundw
          case rel => exact ⟨k + 1, by go_num, by omega, HN, y, rfl⟩
          case measure => simp [intOf]; omega
      · obtain rfl : k = s.size := by omega
        go_wp2
        go_ret
        exact Gives.mk (congrArg Value.bool (by rw [allDig_yes h0 hall.out])) x.below

theorem bs_mk (l : List UInt8) : bs ⟨l.toArray⟩ = l := by rw [bs_data]
theorem mk_size (l : List UInt8) : (⟨l.toArray⟩ : ByteArray).size = l.length := by show l.toArray.size = _; simp
theorem bs_append (a b : ByteArray) : bs (a ++ b) = bs a ++ bs b := by simp [bs_data, ByteArray.data_append]
/-- a string made into bytes: the world behind it, and the cells of the new row -/
theorem bytes_named (s : ByteArray) (w : World) : ∃ (N cap : Nat) (W : World), N = (bs s).length ∧ (convert 9 42 (.string s)).run Tryd.prog w = .ok (.slice (some ⟨w.heap.size, 0, none⟩) N cap) W ∧ Below w.heap.size w W ∧ ∀ (k : Nat) (c : UInt8), (bs s)[k]? = some c → W.cell? ⟨w.heap.size, k, none⟩ = some (.int .u8 c.toNat) := by
  refine ⟨s.size, _, _, (bs_length s).symm, Lib.run_convert_string_bytes w 9 42 5 s Tryd.underlying9 Tryd.underlying42 Tryd.underlying5, ?_, ?_⟩
  · exact ⟨rfl, rfl, rfl, by rw [Lib.bytesWorld_size]; omega, fun k hk => Lib.bytesWorld_at_old w _ s k hk⟩
  · intro k c hc
    have hk : k < s.size := by have := (List.getElem?_eq_some_iff.1 hc).1; rwa [bs_length] at this
    rw [Lib.bytesWorld_cell w _ s k hk]
    rw [bs_data] at hc
    rw [List.getD_eq_getElem?_getD, hc]
    rfl
theorem accum_bound : ∀ (l : List UInt8) (n : Int), l.all isDig = true → 0 ≤ n → n ≤ 1152921504606846976 → ∀ m, accum l n = some m → 0 ≤ m ∧ m ≤ 1152921504606846976
  | [], n, _, h0, h1, m, h => by simp [accum] at h; omega
  | c :: l, n, hd, h0, h1, m, h => by
    simp only [List.all_cons, Bool.and_eq_true] at hd
    have hc : 48 ≤ (c.toNat : Int) ∧ (c.toNat : Int) ≤ 57 := by simpa [isDig, digitB] using hd.1
    unfold accum at h
    split at h
    · cases h
    · exact accum_bound l _ hd.2 (by omega) (by omega) m h
/-- what holds at the head of a round of the loop over the digits -/
def AccTo (l : List UInt8) (k : Nat) (n : Int) : Prop := accum l 0 = accum (l.drop k) n
theorem AccTo.start (l : List UInt8) : AccTo l 0 0 := rfl
theorem AccTo.step {l : List UInt8} {k : Nat} {n : Int} {c : UInt8} (h : AccTo l k n) (hc : l[k]? = some c) : accum l 0 = if (1152921504606846976 - ((c.toNat : Int) - 48)) / 10 < n then none else accum (l.drop (k + 1)) (10 * n + ((c.toNat : Int) - 48)) := by
  obtain ⟨hk, e⟩ := List.getElem?_eq_some_iff.1 hc
  rw [h, List.drop_eq_getElem_cons hk, accum, e]
theorem AccTo.next {l : List UInt8} {k : Nat} {n : Int} {c : UInt8} (h : AccTo l k n) (hc : l[k]? = some c) (hn : ¬ (1152921504606846976 - ((c.toNat : Int) - 48)) / 10 < n) : AccTo l (k + 1) (10 * n + ((c.toNat : Int) - 48)) := by
  rw [AccTo, h.step hc, if_neg hn]
theorem AccTo.big {l : List UInt8} {k : Nat} {n : Int} {c : UInt8} (h : AccTo l k n) (hc : l[k]? = some c) (hn : (1152921504606846976 - ((c.toNat : Int) - 48)) / 10 < n) : accum l 0 = none := by
  rw [h.step hc, if_pos hn]
theorem AccTo.done {l : List UInt8} {k : Nat} {n : Int} (h : AccTo l k n) (hk : l.length ≤ k) : accum l 0 = some n := by
  rw [h, List.drop_of_length_le hk]; rfl
/-- digits, at their places -/
def Digs (l : List UInt8) : Prop := ∀ (k : Nat) (c : UInt8), l[k]? = some c → 48 ≤ (c.toNat : Int) ∧ (c.toNat : Int) ≤ 57
theorem Digs.of_all {l : List UInt8} (h : l.all isDig = true) : Digs l := fun k c hc => by
  have := List.all_eq_true.1 h c (List.mem_iff_getElem?.2 ⟨k, hc⟩)
  simpa [isDig, digitB] using this
theorem all_of_allDig {l : List UInt8} (h : allDig l = true) : l.all isDig = true := by
  unfold allDig at h; rw [Bool.and_eq_true] at h; exact h.2

theorem formB_all {whole part : List UInt8} {point : Bool} {k : Nat} (h : allDig whole = false) : formB whole part point k = false := by simp [formB, h]
theorem head_of_get {s : ByteArray} (h : 0 < s.size) : (bs s).head? = some s[0] := by rw [List.head?_eq_getElem?, bs_get s 0 h]
theorem formB_zero {s : ByteArray} {part : List UInt8} {point : Bool} {k : Nat} (h : 1 < s.size) (h2 : ((s[0].toNat : Int) == 48) = true) : formB (bs s) part point k = false := by
  have : s[0] = 48 := by rw [beq_iff_eq] at h2; exact UInt8.toNat_inj.1 (show s[0].toNat = 48 by omega)
  simp [formB, head_of_get (show 0 < s.size by omega), bs_length, h, this]
theorem formB_part {whole part : List UInt8} {k : Nat} (h : allDig part = false) : formB whole part true k = false := by simp [formB, h]
theorem formB_long {whole part : List UInt8} {k : Nat} (h : k < part.length) : formB whole part true k = false := by
  have : decide (part.length ≤ k) = false := by simp; omega
  simp [formB, this]
theorem formB_ok {s : ByteArray} {part : List UInt8} {point : Bool} {k : Nat} (h : allDig (bs s) = true) (h2 : ¬ 1 < s.size ∨ ((s[0]!.toNat : Int) == 48) = false) (h0 : 0 < s.size) (h3 : point = false ∨ (allDig part = true ∧ part.length ≤ k)) : formB (bs s) part point k = true := by
  have h48 : (decide (1 < (bs s).length) && (bs s).head? == some 48) = false := by
    rw [bs_length, head_of_get h0]
    rcases h2 with h2 | h2
    · simp [h2]
    · rw [getElem!_pos s 0 h0] at h2
      have : ¬ s[0] = 48 := fun e => by rw [e] at h2; simp at h2
      simp [this]
  unfold formB
  rw [h, h48]
  rcases h3 with rfl | ⟨h3, h4⟩
  · rfl
  · simp [h3, h4]

theorem cut_lengths (l sep : List UInt8) : (Lib.cut l sep).1.length ≤ l.length ∧ (Lib.cut l sep).2.1.length ≤ l.length ∧ ((Lib.cut l sep).2.2 = false → (Lib.cut l sep).2.1.length = 0) := by
  unfold Lib.cut
  split
  · refine ⟨by simp; omega, by simp, fun h => by cases h⟩
  · exact ⟨Nat.le_refl _, Nat.zero_le _, fun _ => rfl⟩
theorem bs_zeros (c : Nat) : bs ⟨(Lib.repeatL (ByteArray.mk #[48]).data.toList c).toArray⟩ = List.replicate c 48 := by
  rw [bs_mk]
  have := Lib.repeatL_replicate 48 1 c
  simpa using this
set_option maxHeartbeats 400000 in
theorem parse_range (s : ByteArray) (digits : Int) (h : placesB digits = false) (w : World) : Calls Tryd.prog 15 #[.string s, .int .i64 digits] w (Gives w (.tuple #[.int .i64 0, .int .i64 2])) := by
  have K := hide (h ▸ places_any digits w)
  clear h
  go_enter Tryd.func15, Tryd.ntmps15
  go_wp2_with fail
  refine (Gives.first K.out).mono ?_
  rintro e w1 ⟨rfl, y1, rfl⟩
  go_wp2
  go_ret2
  exact Gives.mk rfl y1.below
set_option maxHeartbeats 4000000 in
set_option maxRecDepth 100000 in
theorem parse_ok (s : ByteArray) (hs : s.size ≤ 100000) (digits : Int) (k : Nat) (hk : digits = k) (hd : digits ≤ 9) (w : World) (ht : Tabs w) :
    Calls Tryd.prog 15 #[.string s, .int .i64 digits] w (Gives w (.tuple #[.int .i64 (parseE (bs s) k).1, .int .i64 (parseE (bs s) k).2])) := by
  have hp : placesB digits = true := by simp [placesB]; omega
  have KP := hide (hp ▸ places_any digits w)
  have hd0 : 0 ≤ digits := by omega
  have KT := hide fun y : After w.heap.size w => ht.below y.below
  obtain ⟨R, hR⟩ : ∃ R : ByteArray, R = ⟨(Lib.trimPrefix (bs s) [45]).toArray⟩ := ⟨_, rfl⟩
  obtain ⟨ng, hng⟩ : ∃ ng, ng = Lib.hasPrefix (bs s) [45] := ⟨_, rfl⟩
  have hbR : Lib.trimPrefix (bs s) [45] = bs R := by rw [hR]; exact (bs_mk _).symm
  obtain ⟨Wh, hWh⟩ : ∃ Wh : ByteArray, Wh = ⟨(Lib.cut (bs R) [46]).1.toArray⟩ := ⟨_, rfl⟩
  obtain ⟨Pt, hPt⟩ : ∃ Pt : ByteArray, Pt = ⟨(Lib.cut (bs R) [46]).2.1.toArray⟩ := ⟨_, rfl⟩
  obtain ⟨pt, hpt⟩ : ∃ pt, pt = (Lib.cut (bs R) [46]).2.2 := ⟨_, rfl⟩
  have HE0 := hide (show parseE (bs s) k = parseParts ng (bs Wh) (bs Pt) pt k by unfold parseE; rw [hbR, ← hng, ← hpt, hWh, hPt, bs_mk (Lib.cut (bs R) [46]).1, bs_mk (Lib.cut (bs R) [46]).2.1])
  have hRs : R.size ≤ 100000 := by
    rw [hR, mk_size]; have := Lib.trimPrefix_le (bs s) [45]; rw [bs_length] at this; omega
  have hWs : Wh.size ≤ 100000 ∧ Pt.size ≤ 100000 := by
    rw [hWh, hPt, mk_size, mk_size]
    obtain ⟨h1, h2, _⟩ := cut_lengths (bs R) [46]
    rw [bs_length] at h1 h2
    omega
  have hP0 : pt = false → Pt.size = 0 := by
    intro h
    rw [hPt, mk_size]
    rw [hpt] at h
    exact (cut_lengths (bs R) [46]).2.2 h
  obtain ⟨hWs, hPs⟩ := hWs
  have K1 := hide fun y : After w.heap.size w => Gives.after (x := y) (Nat.le_refl _) ((by have := cutPrefix_any s ⟨#[45]⟩ y.val; rw [← bs_data, show (⟨#[45]⟩ : ByteArray).data.toList = [45] from rfl, ← hR, ← hng] at this; exact this) : Calls Tryd.prog 36 #[.string s, .string ⟨#[45]⟩] y.val (Gives y.val (.tuple #[.string R, .bool ng])))
  have K2 := hide fun y : After w.heap.size w => Gives.after (x := y) (Nat.le_refl _) ((by have := cut_any R ⟨#[46]⟩ y.val (KT.out y) (by omega); rw [← bs_data, show (⟨#[46]⟩ : ByteArray).data.toList = [46] from rfl, ← hWh, ← hPt, ← hpt] at this; exact this) : Calls Tryd.prog 37 #[.string R, .string ⟨#[46]⟩] y.val (Gives y.val (.tuple #[.string Wh, .string Pt, .bool pt])))
  have KW0 := hide fun y : After w.heap.size w => Gives.after (x := y) (Nat.le_refl _) (all_any Wh y.val (by unfold maxLen; omega))
  have KQ0 := hide fun y : After w.heap.size w => Gives.after (x := y) (Nat.le_refl _) (all_any Pt y.val (by unfold maxLen; omega))
  have HK := hide hk
  clear hp hk ht hR hng hbR hWh hPt hpt hRs
  cases hw : allDig (bs Wh)
  · have KW := hide (hw ▸ KW0.out)
    have HE := hide (show parseE (bs s) k = (0, 7) by rw [HE0.out, parseParts, formB_all hw]; rfl)
    clear hw hP0
    go_enter Tryd.func15, Tryd.ntmps15
    go_wp2_with fail
    refine (Gives.first KP.out).mono ?_
    rintro e w1 ⟨rfl, y1, rfl⟩
    go_wp2_with fail
    refine (K1.out y1).mono ?_
    rintro e w1 ⟨rfl, y2, rfl⟩
    go_wp2_with fail
    refine (K2.out y2).mono ?_
    rintro e w1 ⟨rfl, y3, rfl⟩
    go_wp2_with fail
    refine (KW.out y3).mono ?_
    rintro e w1 ⟨rfl, y4, rfl⟩
    go_wp2
    go_ret2
    exact Gives.mk (congrArg (fun x : Int × Int => Value.tuple #[.int .i64 x.1, .int .i64 x.2]) HE.out.symm) (After.below _)
  · have KW := hide (hw ▸ KW0.out)
    have hW0 : 0 < Wh.size := by
      rcases Nat.eq_zero_or_pos Wh.size with h | h
      · rw [allDig_empty h] at hw; cases hw
      · exact h
    have HW := hide hw
    have hq : (decide (1 < (Wh.size : Int)) = true ∧ ((Wh[0].toNat : Int) == 48) = true) ∨ (decide (1 < (Wh.size : Int)) = false ∨ (decide (1 < (Wh.size : Int)) = true ∧ ((Wh[0].toNat : Int) == 48) = false)) := by
      cases decide (1 < (Wh.size : Int)) <;> cases ((Wh[0].toNat : Int) == 48) <;> simp
    clear hw
    rcases hq with ⟨h1, h2⟩ | hq
    · have HE := hide (show parseE (bs s) k = (0, 7) by rw [HE0.out, parseParts, formB_zero (by simp at h1; omega) h2]; rfl)
      clear hP0
      go_enter Tryd.func15, Tryd.ntmps15
      go_wp2_with fail
      refine (Gives.first KP.out).mono ?_
      rintro e w1 ⟨rfl, y1, rfl⟩
      go_wp2_with fail
      refine (K1.out y1).mono ?_
      rintro e w1 ⟨rfl, y2, rfl⟩
      go_wp2_with fail
      refine (K2.out y2).mono ?_
      rintro e w1 ⟨rfl, y3, rfl⟩
      go_wp2_with fail
      refine (KW.out y3).mono ?_
      rintro e w1 ⟨rfl, y4, rfl⟩
      go_wp2
      go_ret2
      exact Gives.mk (congrArg (fun x : Int × Int => Value.tuple #[.int .i64 x.1, .int .i64 x.2]) HE.out.symm) (After.below _)
    · have h48 : ¬ 1 < Wh.size ∨ ((Wh[0]!.toNat : Int) == 48) = false := by
        rw [getElem!_pos Wh 0 hW0]
        rcases hq with h | ⟨_, h⟩
        · left; simp at h; omega
        · right; exact h
      have H48 := hide h48
      clear h48
      have hc : (pt = true ∧ allDig (bs Pt) = false) ∨ (pt = true ∧ allDig (bs Pt) = true ∧ digits < (Pt.size : Int)) ∨ ((Pt.size : Int) ≤ digits ∧ (bs Pt).all isDig = true ∧ (pt = false ∨ (pt = true ∧ allDig (bs Pt) = true))) := by
        cases hpt : pt
        · have h0 := hP0 hpt
          have : bs Pt = [] := List.eq_nil_of_length_eq_zero (by rw [bs_length]; exact h0)
          exact Or.inr (Or.inr ⟨by omega, by rw [this]; rfl, Or.inl rfl⟩)
        · cases ha : allDig (bs Pt)
          · exact Or.inl ⟨rfl, rfl⟩
          · by_cases hl : digits < (Pt.size : Int)
            · exact Or.inr (Or.inl ⟨rfl, rfl, hl⟩)
            · exact Or.inr (Or.inr ⟨by omega, all_of_allDig ha, Or.inr ⟨rfl, rfl⟩⟩)
      clear hP0
      rcases hc with ⟨rfl, ha⟩ | ⟨rfl, ha, hl⟩ | ⟨hl, hall, hc⟩
      · have KQ := hide (ha ▸ KQ0.out)
        have HE := hide (show parseE (bs s) k = (0, 7) by rw [HE0.out, parseParts, formB_part ha]; rfl)
        clear ha
        rcases hq with hq | ⟨hq, hq2⟩
        all_goals
          go_enter Tryd.func15, Tryd.ntmps15
          go_wp2_with fail
          refine (Gives.first KP.out).mono ?_
          rintro e w1 ⟨rfl, y1, rfl⟩
          go_wp2_with fail
          refine (K1.out y1).mono ?_
          rintro e w1 ⟨rfl, y2, rfl⟩
          go_wp2_with fail
          refine (K2.out y2).mono ?_
          rintro e w1 ⟨rfl, y3, rfl⟩
          go_wp2_with fail
          refine (KW.out y3).mono ?_
          rintro e w1 ⟨rfl, y4, rfl⟩
          go_wp2_with fail
          refine (KQ.out y4).mono ?_
          rintro e w1 ⟨rfl, y5, rfl⟩
          go_wp2
          go_ret2
          exact Gives.mk (congrArg (fun x : Int × Int => Value.tuple #[.int .i64 x.1, .int .i64 x.2]) HE.out.symm) (After.below _)
      · have KQ := hide (ha ▸ KQ0.out)
        have HE := hide (show parseE (bs s) k = (0, 7) by rw [HE0.out, parseParts, formB_long (by rw [bs_length]; have := HK.out; omega)]; rfl)
        clear ha
        have hl' : decide (digits < (Pt.size : Int)) = true := by simp; omega
        rcases hq with hq | ⟨hq, hq2⟩
        all_goals
          go_enter Tryd.func15, Tryd.ntmps15
          go_wp2_with fail
          refine (Gives.first KP.out).mono ?_
          rintro e w1 ⟨rfl, y1, rfl⟩
          go_wp2_with fail
          refine (K1.out y1).mono ?_
          rintro e w1 ⟨rfl, y2, rfl⟩
          go_wp2_with fail
          refine (K2.out y2).mono ?_
          rintro e w1 ⟨rfl, y3, rfl⟩
          go_wp2_with fail
          refine (KW.out y3).mono ?_
          rintro e w1 ⟨rfl, y4, rfl⟩
          go_wp2_with fail
          refine (KQ.out y4).mono ?_
          rintro e w1 ⟨rfl, y5, rfl⟩
          go_wp2
          go_ret2
          exact Gives.mk (congrArg (fun x : Int × Int => Value.tuple #[.int .i64 x.1, .int .i64 x.2]) HE.out.symm) (After.below _)
      · obtain ⟨Z, hZ⟩ : ∃ Z : ByteArray, Z = ⟨(Lib.repeatL (ByteArray.mk #[48]).data.toList (digits - Pt.size).toNat).toArray⟩ := ⟨_, rfl⟩
        have KZ := hide fun y : After w.heap.size w => Gives.after (x := y) (Nat.le_refl _) (repeat_at (digits - Pt.size) Z hZ (by omega) (by omega) y.val)
        obtain ⟨L, hL⟩ : ∃ L, L = bs Wh ++ bs Pt ++ List.replicate (k - Pt.size) 48 := ⟨_, rfl⟩
        have HL := hide (show bs (Wh ++ Pt ++ Z) = L by rw [bs_append, bs_append, hL, hZ, bs_zeros, show (digits - Pt.size).toNat = k - Pt.size by have := HK.out; omega])
        have HDG := hide (show Digs L by rw [hL]; exact Digs.of_all (by simp [List.all_append, all_of_allDig HW.out, hall]; right; rfl))
        have HN := hide (show L.length ≤ 300000 by rw [hL]; have := HK.out; simp [bs_length]; omega)
        have HE1 := hide (show parseE (bs s) k = numE ng (accum L 0) by
          rw [HE0.out, parseParts, formB_ok HW.out H48.out hW0 (by
            rcases hc with h | ⟨_, h⟩
            · exact Or.inl h
            · exact Or.inr ⟨h, by rw [bs_length]; have := HK.out; omega⟩), if_pos rfl, hL, bs_length])
        have hZs : Z.size ≤ 100 := by rw [hZ, mk_size, Lib.repeatL_length]; simp; omega
        clear hZ hL hall
        rcases hc with rfl | ⟨rfl, ha⟩
        · rcases hq with hq | ⟨hq, hq2⟩
          all_goals
            go_enter Tryd.func15, Tryd.ntmps15
            go_wp2_with fail
            refine (Gives.first KP.out).mono ?_
            rintro e w1 ⟨rfl, y1, rfl⟩
            go_wp2_with fail
            refine (K1.out y1).mono ?_
            rintro e w1 ⟨rfl, y2, rfl⟩
            go_wp2_with fail
            refine (K2.out y2).mono ?_
            rintro e w1 ⟨rfl, y3, rfl⟩
            go_wp2_with fail
            refine (KW.out y3).mono ?_
            rintro e w1 ⟨rfl, y4, rfl⟩
            go_wp2_with fail
            refine (KZ.out y4).mono ?_
            rintro e w1 ⟨rfl, z1, rfl⟩
            obtain ⟨N, cap, W, hN, hrun, hbel, hcells⟩ := bytes_named (Wh ++ Pt ++ Z) z1.val
            rw [HL.out] at hN hcells
            have hN2 : N ≤ 300000 := by have := HN.out; omega
            have HNN := hide hN
            have HC := hide hcells
            have HBL := hide hbel
            clear hN hcells hbel
            go_wp2
            clear hrun
            go_loopw [11, 67] (fun v u wr => ∃ (j : Nat) (a : Int), u = .int .i64 j ∧ j ≤ N ∧ v = .int .i64 a ∧ 0 ≤ a ∧ a ≤ 1152921504606846976 ∧ Hid (AccTo L j a) ∧ wr = W) (fun _ u _ => N - (intOf u).toNat)
            case atStart => exact ⟨0, 0, rfl, Nat.zero_le _, rfl, by omega, by omega, hide (AccTo.start L), rfl⟩
            case round =>
              obtain ⟨j, a, rfl, hj, rfl, ha, ha2, hacc, rfl⟩ := hrel
              by_cases hlt : j < N
              · obtain ⟨c, hc⟩ : ∃ c, L[j]? = some c := ⟨L[j]'(by have := HNN.out; omega), List.getElem?_eq_getElem _⟩
                obtain ⟨hc1, hc2⟩ := HDG.out j c hc
                have hcell := HC.out j c hc
                by_cases hbig : (1152921504606846976 - ((c.toNat : Int) - 48)) / 10 < a
                · have HE := hide (show parseE (bs s) k = (0, 5) by rw [HE1.out, hacc.out.big hc hbig]; rfl)
                  clear hc
                  go_wp2
                  go_ret2
                  exact Gives.mk (congrArg (fun x : Int × Int => Value.tuple #[.int .i64 x.1, .int .i64 x.2]) HE.out.symm) (z1.below.trans (HBL.out.mono z1.size))
                · have HA := hide (hacc.out.next hc hbig)
                  clear hc
                  go_wp2
                  go_roundw
                  case rel => exact ⟨j + 1, 10 * a + ((c.toNat : Int) - 48), by go_num, by omega, rfl, by omega, by omega, HA, by first | rfl | trivial⟩
                  case measure => simp [intOf]; omega
              · have HD := hide (hacc.out.done (by have := HNN.out; omega))
                cases ng
                · have HE := hide (show parseE (bs s) k = (a, 0) by rw [HE1.out, HD.out]; rfl)
                  go_wp2
                  go_ret2
                  exact Gives.mk (congrArg (fun x : Int × Int => Value.tuple #[.int .i64 x.1, .int .i64 x.2]) HE.out.symm) (z1.below.trans (HBL.out.mono z1.size))
                · have HE := hide (show parseE (bs s) k = (-a, 0) by rw [HE1.out, HD.out]; rfl)
                  go_wp2
                  go_ret2
                  exact Gives.mk (congrArg (fun x : Int × Int => Value.tuple #[.int .i64 x.1, .int .i64 x.2]) HE.out.symm) (z1.below.trans (HBL.out.mono z1.size))
        · have KQ := hide (ha ▸ KQ0.out)
          clear ha
          rcases hq with hq | ⟨hq, hq2⟩
          all_goals
            go_enter Tryd.func15, Tryd.ntmps15
            go_wp2_with fail
            refine (Gives.first KP.out).mono ?_
            rintro e w1 ⟨rfl, y1, rfl⟩
            go_wp2_with fail
            refine (K1.out y1).mono ?_
            rintro e w1 ⟨rfl, y2, rfl⟩
            go_wp2_with fail
            refine (K2.out y2).mono ?_
            rintro e w1 ⟨rfl, y3, rfl⟩
            go_wp2_with fail
            refine (KW.out y3).mono ?_
            rintro e w1 ⟨rfl, y4, rfl⟩
            go_wp2_with fail
            refine (KQ.out y4).mono ?_
            rintro e w1 ⟨rfl, y5, rfl⟩
            go_wp2_with fail
            refine (KZ.out y5).mono ?_
            rintro e w1 ⟨rfl, z1, rfl⟩
            obtain ⟨N, cap, W, hN, hrun, hbel, hcells⟩ := bytes_named (Wh ++ Pt ++ Z) z1.val
            rw [HL.out] at hN hcells
            have hN2 : N ≤ 300000 := by have := HN.out; omega
            have HNN := hide hN
            have HC := hide hcells
            have HBL := hide hbel
            clear hN hcells hbel
            go_wp2
            clear hrun
            go_loopw [11, 67] (fun v u wr => ∃ (j : Nat) (a : Int), u = .int .i64 j ∧ j ≤ N ∧ v = .int .i64 a ∧ 0 ≤ a ∧ a ≤ 1152921504606846976 ∧ Hid (AccTo L j a) ∧ wr = W) (fun _ u _ => N - (intOf u).toNat)
            case atStart => exact ⟨0, 0, rfl, Nat.zero_le _, rfl, by omega, by omega, hide (AccTo.start L), rfl⟩
            case round =>
              obtain ⟨j, a, rfl, hj, rfl, ha, ha2, hacc, rfl⟩ := hrel
              by_cases hlt : j < N
              · obtain ⟨c, hc⟩ : ∃ c, L[j]? = some c := ⟨L[j]'(by have := HNN.out; omega), List.getElem?_eq_getElem _⟩
                obtain ⟨hc1, hc2⟩ := HDG.out j c hc
                have hcell := HC.out j c hc
                by_cases hbig : (1152921504606846976 - ((c.toNat : Int) - 48)) / 10 < a
                · have HE := hide (show parseE (bs s) k = (0, 5) by rw [HE1.out, hacc.out.big hc hbig]; rfl)
                  clear hc
                  go_wp2
                  go_ret2
                  exact Gives.mk (congrArg (fun x : Int × Int => Value.tuple #[.int .i64 x.1, .int .i64 x.2]) HE.out.symm) (z1.below.trans (HBL.out.mono z1.size))
                · have HA := hide (hacc.out.next hc hbig)
                  clear hc
                  go_wp2
                  go_roundw
                  case rel => exact ⟨j + 1, 10 * a + ((c.toNat : Int) - 48), by go_num, by omega, rfl, by omega, by omega, HA, by first | rfl | trivial⟩
                  case measure => simp [intOf]; omega
              · have HD := hide (hacc.out.done (by have := HNN.out; omega))
                cases ng
                · have HE := hide (show parseE (bs s) k = (a, 0) by rw [HE1.out, HD.out]; rfl)
                  go_wp2
                  go_ret2
                  exact Gives.mk (congrArg (fun x : Int × Int => Value.tuple #[.int .i64 x.1, .int .i64 x.2]) HE.out.symm) (z1.below.trans (HBL.out.mono z1.size))
                · have HE := hide (show parseE (bs s) k = (-a, 0) by rw [HE1.out, HD.out]; rfl)
                  go_wp2
                  go_ret2
                  exact Gives.mk (congrArg (fun x : Int × Int => Value.tuple #[.int .i64 x.1, .int .i64 x.2]) HE.out.symm) (z1.below.trans (HBL.out.mono z1.size))
end Go.Proofs.YtplblogdgbnbdaaDoor
