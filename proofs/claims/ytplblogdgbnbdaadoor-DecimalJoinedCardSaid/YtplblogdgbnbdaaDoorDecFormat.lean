/- Decimal numbers: what Format and its reference compute. -/
import Derived.Test.YtplblogdgbnbdaaDoorDecLib
import Derived.Test.YtplblogdgbnbdaaDoorDecFmt
namespace Go.Proofs.YtplblogdgbnbdaaDoor
open Go.RowKit

def numB (n : Int) : Bool := decide (-1152921504606846976 ≤ n) && decide (n ≤ 1152921504606846976)
def placesB (k : Int) : Bool := decide (0 ≤ k) && decide (k ≤ 9)
theorem places_any (k : Int) (w : World) : Calls Tryd.prog 32 #[.int .i64 k] w (Gives w (.bool (placesB k))) := by
  go_enter Tryd.func32, Tryd.ntmps32
  go_wp2
  all_goals
    go_ret
    exact Gives.mk (congrArg Value.bool (by rw [Bool.eq_iff_iff]; simp [placesB]; try omega)) (Below.refl _ _)
theorem number_any (k : Int) (w : World) : Calls Tryd.prog 33 #[.int .i64 k] w (Gives w (.bool (numB k))) := by
  go_enter Tryd.func33, Tryd.ntmps33
  go_wp2
  all_goals
    go_ret
    exact Gives.mk (congrArg Value.bool (by rw [Bool.eq_iff_iff]; simp [numB]; try omega)) (Below.refl _ _)
theorem refNumber_any (k : Int) (w : World) : Calls Tryd.prog 13 #[.int .i64 k] w (Gives w (.bool (numB k))) := by
  go_enter Tryd.func13, Tryd.ntmps13
  go_wp2
  all_goals
    go_ret
    exact Gives.mk (congrArg Value.bool (by rw [Bool.eq_iff_iff]; simp [numB]; try omega)) (Below.refl _ _)

/-- the text of one byte, made out of a slice of one byte -/
theorem run_byte_string (w : World) (n : Int) (h : 0 ≤ n) (h2 : n ≤ 255) :
    (convert 42 9 (.slice (some ⟨w.heap.size, 0, none⟩) 1 1)).run Tryd.prog (w.alloc (.cells #[.int .u8 n] 5)) = .ok (.string ⟨#[UInt8.ofNat n.toNat]⟩) (w.alloc (.cells #[.int .u8 n] 5)) := by
  refine run_convert_bytes_back (P := Tryd.prog) (w.alloc (.cells #[.int .u8 n] 5)) 42 9 5 ⟨w.heap.size, 0, none⟩ 1 [UInt8.ofNat n.toNat] Tryd.underlying42 Tryd.underlying5 Tryd.underlying9 ?_
  intro j hj
  have : j = 0 := by simpa using hj
  subst this
  have e : ((UInt8.ofNat n.toNat).toNat : Int) = n := by
    have := UInt8.toNat_ofNat_of_lt' (n := n.toNat) (show n.toNat < UInt8.size by simp only [UInt8.size]; omega)
    rw [this]; omega
  have := World.cell?_alloc_mark w #[.int .u8 n] 5 (0, 0) 0
  simp only [List.getElem_cons_zero, e]
  exact this

/-- how far the reference's loop is: j digits are laid, v is what is left -/
def DigitsTo (u least j v : Nat) (s : ByteArray) : Prop := v = u / 10 ^ j ∧ s = ⟨(lowDigits u j).toArray⟩ ∧ j ≤ max least (Lib.nDigits u)
theorem DigitsTo.start (u least : Nat) : DigitsTo u least 0 u ⟨#[]⟩ := ⟨by simp, by simp [lowDigits], Nat.zero_le _⟩
theorem DigitsTo.size {u least j v : Nat} {s : ByteArray} (h : DigitsTo u least j v s) : s.size = j := by
  rw [h.2.1]; show (lowDigits u j).toArray.size = j; simp [lowDigits_length]
theorem DigitsTo.next {u least j v : Nat} {s : ByteArray} (h : DigitsTo u least j v s) (hg : 0 < v ∨ j < least) : DigitsTo u least (j + 1) (v / 10) (⟨#[UInt8.ofNat (48 + v % 10)]⟩ ++ s) := by
  obtain ⟨h1, h2, h3⟩ := h
  refine ⟨by rw [h1, Nat.div_div_eq_div_mul, Nat.pow_succ], ?_, ?_⟩
  · rw [h2]
    apply ByteArray.ext
    rw [ByteArray.data_append]
    simp [lowDigits, Lib.dg, h1]
  · rcases hg with hg | hg
    · have : ¬ Lib.nDigits u ≤ j := fun hle => by
        have h4 := Lib.lt_pow_nDigits u
        have h5 : 10 ^ Lib.nDigits u ≤ 10 ^ j := Nat.pow_le_pow_right (by decide) hle
        rw [Nat.div_eq_of_lt (by omega)] at h1
        omega
      omega
    · omega
theorem DigitsTo.last {u least j v : Nat} {s : ByteArray} (h : DigitsTo u least j v s) (hl : 1 ≤ least) (hv : v = 0) (hj : least ≤ j) : s = ⟨(padDec u least).toArray⟩ := by
  obtain ⟨h1, h2, h3⟩ := h
  have : j = max least (Lib.nDigits u) := by
    rcases Nat.lt_or_ge j (Lib.nDigits u) with hlt | hge
    · obtain ⟨k, hk⟩ : ∃ k, j = k + 1 := ⟨j - 1, by omega⟩
      have := nDigits_le u k (by
        rw [hv] at h1
        rw [← hk]
        exact (Nat.div_eq_zero_iff_lt (Nat.pow_pos (by decide))).1 h1.symm)
      omega
    · omega
  rw [h2, padDec_low, this]

set_option maxHeartbeats 1000000 in
set_option maxRecDepth 100000 in
theorem refDigits_any (u : Nat) (n least : Int) (hn : n = u) (k : Nat) (hk : least = k) (hl : 1 ≤ least) (hl2 : least ≤ 10) (hu : n ≤ 1152921504606846976) (w : World) :
    Calls Tryd.prog 35 #[.int .i64 n, .int .i64 least] w (Gives w (.string ⟨(padDec u k).toArray⟩)) := by
  have hnd : max k (Lib.nDigits u) ≤ 20 := by
    have := nDigits_le u 18 (by omega)
    omega
  have hn0 : 0 ≤ n := by omega
  have HD := hide hnd
  have HN := hide hn
  have HK := hide hk
  clear hnd hn hk
  go_enter Tryd.func35, Tryd.ntmps35
  go_wp2
  go_loopw [0, 5] (fun n o wr => ∃ (a : Int) (s : ByteArray), n = .int .i64 a ∧ o = .string s ∧ Hid (∃ (v j : Nat), a = v ∧ DigitsTo u k j v s) ∧ 0 ≤ a ∧ a ≤ 1152921504606846976 ∧ ∃ x : After w.heap.size w, wr = x.val) (fun _ o _ => 20 - (match o with | .string s => s.size | _ => 0))
  case atStart => exact ⟨n, _, rfl, rfl, hide ⟨u, 0, HN.out, DigitsTo.start u k⟩, hn0, hu, After.refl _ _, rfl⟩
  case round =>
    obtain ⟨a, s, rfl, rfl, hd, ha, ha2, x, rfl⟩ := hrel
    have hm := Int.emod_nonneg a (show (10 : Int) ≠ 0 by decide)
    have hm2 := Int.emod_lt_of_pos a (show (0 : Int) < 10 by decide)
    have kc := run_byte_string x.val (48 + a % 10) (by omega) (by omega)
    have hsz : s.size ≤ 20 := by obtain ⟨v, j, _, hd⟩ := hd; have := hd.size; have := hd.2.2; have := HD.out; omega
    have nx : 0 < a ∨ (s.size : Int) < least → Hid (∃ (v' j' : Nat), a / 10 = v' ∧ DigitsTo u k j' v' (⟨#[UInt8.ofNat (48 + a % 10).toNat]⟩ ++ s)) := by
      intro hg
      obtain ⟨v, j, rfl, hd⟩ := hd
      have hsz := hd.size
      have hk := HK.out
      refine hide ⟨v / 10, j + 1, by omega, ?_⟩
      have := hd.next (by omega)
      rwa [show (48 + (v : Int) % 10).toNat = 48 + v % 10 by omega]
    have NX := hide nx
    have la : ¬ 0 < a → ¬ (s.size : Int) < least → s = ⟨(padDec u k).toArray⟩ := by
      intro h1 h2
      obtain ⟨v, j, rfl, hd⟩ := hd
      have hsz := hd.size
      have hk := HK.out
      exact hd.last (by omega) (by omega) (by omega)
    have LA := hide la
    clear la nx
    by_cases hg : 0 < a
    · go_wp2
      go_roundw
      case rel => exact ⟨a / 10, _, rfl, rfl, NX.out (Or.inl hg), by omega, by omega, After.exists_iff (x.below.trans ((Below.refl _ _).alloc x.size _))⟩
      case measure =>
        obtain ⟨v', j', _, hd'⟩ := NX.out (Or.inl hg)
        have h1 := hd'.size
        have h2 := hd'.2.2
        have h3 := HD.out
        rw [ByteArray.size_append] at h1
        have h4 : (⟨#[UInt8.ofNat (48 + a % 10).toNat]⟩ : ByteArray).size = 1 := rfl
        simp [ByteArray.size_append]
        omega
    · by_cases hg2 : (s.size : Int) < least
      · go_wp2
        go_roundw
        case rel => exact ⟨a / 10, _, rfl, rfl, NX.out (Or.inr hg2), by omega, by omega, After.exists_iff (x.below.trans ((Below.refl _ _).alloc x.size _))⟩
        case measure =>
          obtain ⟨v', j', _, hd'⟩ := NX.out (Or.inr hg2)
          have h1 := hd'.size
          have h2 := hd'.2.2
          have h3 := HD.out
          rw [ByteArray.size_append] at h1
          have h4 : (⟨#[UInt8.ofNat (48 + a % 10).toNat]⟩ : ByteArray).size = 1 := rfl
          simp [ByteArray.size_append]
          omega
      · go_wp2
        go_ret
        exact Gives.mk (congrArg Value.string (LA.out hg hg2)) x.below

theorem sign_neg {n : Int} (h : n < 0) : (if n < 0 then [45] else [] : List UInt8) = [45] := if_pos h
theorem sign_pos {n : Int} (h : ¬ n < 0) : (if n < 0 then [45] else [] : List UInt8) = [] := if_neg h
/-- the text put together out of its pieces -/
theorem fmt_cut {n digits : Int} {k : Nat} {S sign : ByteArray} (hk : digits = k) (h0 : ¬ digits = 0) (hS : S = ⟨(padDec n.natAbs (k + 1)).toArray⟩) (hs : sign = ⟨(if n < 0 then [45] else [] : List UInt8).toArray⟩) :
    sign ++ S.extract 0 ((S.size : Int) - digits).toNat ++ ⟨#[46]⟩ ++ S.extract ((S.size : Int) - digits).toNat S.size = ⟨(fmtL n k).toArray⟩ := by
  have hl : S.size = (padDec n.natAbs (k + 1)).length := by rw [hS]; show (padDec n.natAbs (k + 1)).toArray.size = _; simp
  have he : ((S.size : Int) - digits).toNat = (padDec n.natAbs (k + 1)).length - k := by omega
  have hd : S.data.toList = padDec n.natAbs (k + 1) := by rw [hS]
  rw [he, Lib.extract_eq, Lib.extract_eq, hd, hs]
  apply ByteArray.ext
  simp only [ByteArray.data_append]
  unfold fmtL
  rw [fmtAbs_cut _ _ (by omega), ← Array.toList_inj]
  simp only [List.drop_zero, Nat.sub_zero, Array.toList_append, hl]
  rw [List.take_of_length_le (l := (padDec n.natAbs (k + 1)).drop _) (by simp)]
  simp
theorem fmt_whole {n digits : Int} {k : Nat} {S sign : ByteArray} (hk : digits = k) (h0 : digits = 0) (hS : S = ⟨(padDec n.natAbs (k + 1)).toArray⟩) (hs : sign = ⟨(if n < 0 then [45] else [] : List UInt8).toArray⟩) :
    sign ++ S = ⟨(fmtL n k).toArray⟩ := by
  have : k = 0 := by omega
  subst this
  rw [hS, hs]
  apply ByteArray.ext
  simp only [ByteArray.data_append]
  unfold fmtL
  rw [fmtAbs_zero, padDec_one]
  simp

set_option maxHeartbeats 1000000 in
set_option maxRecDepth 100000 in
theorem refFormat_any (n digits : Int) (k : Nat) (hk : digits = k) (hd : digits ≤ 9) (hn : -1152921504606846976 ≤ n) (hn2 : n ≤ 1152921504606846976) (w : World) :
    Calls Tryd.prog 14 #[.int .i64 n, .int .i64 digits] w (Gives w (.string ⟨(fmtL n k).toArray⟩)) := by
  obtain ⟨S, hS⟩ : ∃ S : ByteArray, S = ⟨(padDec n.natAbs (k + 1)).toArray⟩ := ⟨_, rfl⟩
  have hsz : S.size = max (k + 1) (Lib.nDigits n.natAbs) := by rw [hS]; show (padDec n.natAbs (k + 1)).toArray.size = _; simp [padDec_length]
  have hsz2 : S.size ≤ 20 := by have := nDigits_le n.natAbs 18 (by omega); omega
  have hkS : digits < (S.size : Int) := by omega
  have hd0 : 0 ≤ digits := by omega
  have HK := hide hk
  have HS := hide hS
  have KD := hide fun (m : Int) (hm : m = n.natAbs) (hm2 : m ≤ 1152921504606846976) (w : World) => (hS ▸ refDigits_any n.natAbs m (digits + 1) hm (k + 1) (by omega) (by omega) (by omega) hm2 w : Calls Tryd.prog 35 #[.int .i64 m, .int .i64 (digits + 1)] w (Gives w (.string S)))
  clear hk hS hsz
  by_cases h0 : n < 0
  · have HG := hide (sign_neg h0)
    by_cases hz : digits = 0
    · have hzd : (digits == 0) = true := by simp; omega
      have HZ := hide hz
      clear hz
      go_enter Tryd.func14, Tryd.ntmps14
      go_wp2_with fail
      refine (Gives.first (KD.out (-n) (by omega) (by omega) w)).mono ?_
      rintro e w1 ⟨rfl, y1, rfl⟩
      go_wp2
      go_ret
      exact Gives.mk (congrArg Value.string (fmt_whole HK.out HZ.out HS.out (by rw [HG.out]))) y1.below
    · have hzd : (digits == 0) = false := by simp; omega
      go_enter Tryd.func14, Tryd.ntmps14
      go_wp2_with fail
      refine (Gives.first (KD.out (-n) (by omega) (by omega) w)).mono ?_
      rintro e w1 ⟨rfl, y1, rfl⟩
      go_wp2
      refine wp_region_after y1 (by kernel_rfl) (by kernel_rfl) ?_
      repeat (go_big_quiet_step (fail))
      refine wpQuiet_nil ?_
      intro z
      go_wp2
      go_ret
      exact Gives.mk (congrArg Value.string (fmt_cut HK.out hz HS.out (by rw [HG.out]))) z.below
  · have HG := hide (sign_pos h0)
    by_cases hz : digits = 0
    · have hzd : (digits == 0) = true := by simp; omega
      have HZ := hide hz
      clear hz
      go_enter Tryd.func14, Tryd.ntmps14
      go_wp2_with fail
      refine (Gives.first (KD.out n (by omega) (by omega) w)).mono ?_
      rintro e w1 ⟨rfl, y1, rfl⟩
      go_wp2
      go_ret
      exact Gives.mk (congrArg Value.string (fmt_whole HK.out HZ.out HS.out (by rw [HG.out]))) y1.below
    · have hzd : (digits == 0) = false := by simp; omega
      go_enter Tryd.func14, Tryd.ntmps14
      go_wp2_with fail
      refine (Gives.first (KD.out n (by omega) (by omega) w)).mono ?_
      rintro e w1 ⟨rfl, y1, rfl⟩
      go_wp2
      refine wp_region_after y1 (by kernel_rfl) (by kernel_rfl) ?_
      repeat (go_big_quiet_step (fail))
      refine wpQuiet_nil ?_
      intro z
      go_wp2
      go_ret
      exact Gives.mk (congrArg Value.string (fmt_cut HK.out hz HS.out (by rw [HG.out]))) z.below

theorem itoa_natAbs {m : Int} {u : Nat} (h : m = u) : Lib.itoa m = Lib.decDigits u := by
  subst h
  unfold Lib.itoa
  rw [if_neg (by omega)]
  rfl
theorem pad_zeros {u k : Nat} {S : ByteArray} (hS : S = ⟨(Lib.decDigits u).toArray⟩) {c : Nat} (hc : c = k + 1 - S.size) : (⟨(Lib.repeatL (ByteArray.mk #[48]).data.toList c).toArray⟩ : ByteArray) ++ S = ⟨(padDec u (k + 1)).toArray⟩ := by
  have hl : S.size = Lib.nDigits u := by rw [hS, ← Lib.decDigits_length]; show (Lib.decDigits u).toArray.size = _; simp
  apply ByteArray.ext
  rw [← Array.toList_inj]
  simp only [ByteArray.data_append, Array.toList_append, hS]
  have := Lib.repeatL_replicate 48 1 c
  simp only [List.replicate_one] at this
  rw [Nat.mul_one] at this
  unfold padDec
  rw [this]
  simp [hc, hl]
theorem pad_zero {n digits : Int} {k : Nat} {S : ByteArray} (hk : digits = k) (h0 : digits = 0) (hS : S = ⟨(Lib.decDigits n.natAbs).toArray⟩) : S = ⟨(padDec n.natAbs (k + 1)).toArray⟩ := by
  have : k = 0 := by omega
  subst this
  rw [padDec_one]; exact hS
theorem repeat_at (c : Int) (R : ByteArray) (hR : R = ⟨(Lib.repeatL (ByteArray.mk #[48]).data.toList c.toNat).toArray⟩) (h0 : 0 ≤ c) (h1 : c ≤ 100) (w : World) : Calls Tryd.prog 20 #[.string ⟨#[48]⟩, .int .i64 c] w (Gives w (.string R)) := by
  have := repeat_any ⟨#[48]⟩ c.toNat w (by show 1 * c.toNat ≤ _; omega) (by omega)
  rw [show ((c.toNat : Nat) : Int) = c by omega, ← hR] at this
  exact this
theorem pad_none {u k : Nat} {S : ByteArray} (hS : S = ⟨(Lib.decDigits u).toArray⟩) (hk : ¬ S.size ≤ k) : S = ⟨(padDec u (k + 1)).toArray⟩ := by
  have hl : S.size = Lib.nDigits u := by rw [hS, ← Lib.decDigits_length]; show (Lib.decDigits u).toArray.size = _; simp
  unfold padDec
  rw [show k + 1 - Lib.nDigits u = 0 by omega]
  exact hS
set_option maxHeartbeats 400000 in
theorem format_range (n digits : Int) (h : placesB digits = false) (w : World) : Calls Tryd.prog 12 #[.int .i64 n, .int .i64 digits] w (Gives w (.tuple #[.string ⟨#[]⟩, .int .i64 2])) := by
  have K := hide (h ▸ places_any digits w)
  clear h
  go_enter Tryd.func12, Tryd.ntmps12
  go_wp2_with fail
  refine (Gives.first K.out).mono ?_
  rintro e w1 ⟨rfl, y1, rfl⟩
  go_wp2
  go_ret2
  exact Gives.mk rfl y1.below
set_option maxHeartbeats 400000 in
theorem format_big (n digits : Int) (h : placesB digits = true) (hn : numB n = false) (w : World) : Calls Tryd.prog 12 #[.int .i64 n, .int .i64 digits] w (Gives w (.tuple #[.string ⟨#[]⟩, .int .i64 5])) := by
  have K := hide (h ▸ places_any digits w)
  have K2 := hide fun w => (hn ▸ number_any n w)
  clear h hn
  go_enter Tryd.func12, Tryd.ntmps12
  go_wp2_with fail
  refine (Gives.first K.out).mono ?_
  rintro e w1 ⟨rfl, y1, rfl⟩
  go_wp2_with fail
  refine (Gives.after (Nat.le_refl _) (K2.out y1.val)).mono ?_
  rintro e w1 ⟨rfl, y2, rfl⟩
  go_wp2
  go_ret2
  exact Gives.mk rfl y2.below
set_option maxHeartbeats 2000000 in
set_option maxRecDepth 100000 in
theorem format_ok (n digits : Int) (k : Nat) (hk : digits = k) (hd : digits ≤ 9) (hn : numB n = true) (w : World) (ht : Tabs w) :
    Calls Tryd.prog 12 #[.int .i64 n, .int .i64 digits] w (Gives w (.tuple #[.string ⟨(fmtL n k).toArray⟩, .int .i64 0])) := by
  have hp : placesB digits = true := by simp [placesB]; omega
  have K := hide (hp ▸ places_any digits w)
  have K2 := hide fun w => (hn ▸ number_any n w)
  have hn1 : -1152921504606846976 ≤ n ∧ n ≤ 1152921504606846976 := by simpa [numB] using hn
  obtain ⟨hna, hnb⟩ := hn1
  obtain ⟨S, hS⟩ : ∃ S : ByteArray, S = ⟨(Lib.decDigits n.natAbs).toArray⟩ := ⟨_, rfl⟩
  have hsz : S.size = Lib.nDigits n.natAbs := by rw [hS, ← Lib.decDigits_length]; show (Lib.decDigits n.natAbs).toArray.size = _; simp
  have hs1 : 1 ≤ S.size := by have := Lib.nDigits_pos n.natAbs; omega
  have hs2 : S.size ≤ 20 := by have := nDigits_le n.natAbs 18 (by omega); omega
  have KT := hide fun y : After w.heap.size w => ht.below y.below
  have KI := hide fun (m : Int) (hm : m = n.natAbs) (y : After w.heap.size w) => Gives.after (x := y) (Nat.le_refl _) ((by rw [hS, ← itoa_natAbs hm]; exact itoa_any m ⟨by omega, by omega⟩ y.val (KT.out y)) : Calls Tryd.prog 34 #[.int .i64 m] y.val (Gives y.val (.string S)))
  have hd0 : 0 ≤ digits := by omega
  have HK := hide hk
  have HS := hide hS
  clear hp hn hk hS hsz ht
  obtain ⟨R, hR⟩ : ∃ R : ByteArray, R = ⟨(Lib.repeatL (ByteArray.mk #[48]).data.toList (digits + 1 - S.size).toNat).toArray⟩ := ⟨_, rfl⟩
  have RS := hide fun (h : (S.size : Int) ≤ digits) => (by rw [hR]; exact pad_zeros HS.out (by have := HK.out; omega) : R ++ S = ⟨(padDec n.natAbs (k + 1)).toArray⟩)
  have hRn : digits < (S.size : Int) + R.size ∧ R.size ≤ 20 := by
    have : R.size = (digits + 1 - S.size).toNat := by rw [hR]; show (Lib.repeatL _ _).toArray.size = _; simp [Lib.repeatL_length]
    omega
  by_cases h0 : n < 0
  · have HG := hide (sign_neg h0)
    by_cases hz : digits = 0
    · have hzd : (digits == 0) = true := by simp; omega
      have HZ := hide hz
      clear hz
      go_enter Tryd.func12, Tryd.ntmps12
      go_wp2_with fail
      refine (Gives.first K.out).mono ?_
      rintro e w1 ⟨rfl, y1, rfl⟩
      go_wp2_with fail
      refine (Gives.after (Nat.le_refl _) (K2.out y1.val)).mono ?_
      rintro e w1 ⟨rfl, y2, rfl⟩
      go_wp2_with fail
      refine (KI.out (-n) (by omega) y2).mono ?_
      rintro e w1 ⟨rfl, y3, rfl⟩
      go_wp2
      go_ret2
      exact Gives.mk (congrArg (fun s => Value.tuple #[.string s, .int .i64 0]) (fmt_whole HK.out HZ.out (pad_zero HK.out HZ.out HS.out) (by rw [HG.out]))) y3.below
    · have hzd : (digits == 0) = false := by simp; omega
      by_cases hsd : (S.size : Int) ≤ digits
      · have KR := hide fun y : After w.heap.size w => Gives.after (x := y) (Nat.le_refl _) (repeat_at (digits + 1 - S.size) R hR (by omega) (by omega) y.val)
        clear hR
        go_enter Tryd.func12, Tryd.ntmps12
        go_wp2_with fail
        refine (Gives.first K.out).mono ?_
        rintro e w1 ⟨rfl, y1, rfl⟩
        go_wp2_with fail
        refine (Gives.after (Nat.le_refl _) (K2.out y1.val)).mono ?_
        rintro e w1 ⟨rfl, y2, rfl⟩
        go_wp2_with fail
        refine (KI.out (-n) (by omega) y2).mono ?_
        rintro e w1 ⟨rfl, y3, rfl⟩
        go_wp2_with fail
        refine (KR.out y3).mono ?_
        rintro e w1 ⟨rfl, y4, rfl⟩
        go_wp2
        refine wp_region_after y4 (by kernel_rfl) (by kernel_rfl) ?_
        repeat (go_big_quiet_step (fail))
        refine wpQuiet_nil ?_
        intro z
        go_wp2
        go_ret2
        refine Gives.mk (congrArg (fun s => Value.tuple #[.string s, .int .i64 0]) ?_) z.below
        have := fmt_cut HK.out hz (RS.out hsd) (sign := ⟨#[45]⟩) (by rw [HG.out])
        simpa using this
      · clear hR hRn
        go_enter Tryd.func12, Tryd.ntmps12
        go_wp2_with fail
        refine (Gives.first K.out).mono ?_
        rintro e w1 ⟨rfl, y1, rfl⟩
        go_wp2_with fail
        refine (Gives.after (Nat.le_refl _) (K2.out y1.val)).mono ?_
        rintro e w1 ⟨rfl, y2, rfl⟩
        go_wp2_with fail
        refine (KI.out (-n) (by omega) y2).mono ?_
        rintro e w1 ⟨rfl, y3, rfl⟩
        go_wp2
        refine wp_region_after y3 (by kernel_rfl) (by kernel_rfl) ?_
        repeat (go_big_quiet_step (fail))
        refine wpQuiet_nil ?_
        intro z
        go_wp2
        go_ret2
        exact Gives.mk (congrArg (fun s => Value.tuple #[.string s, .int .i64 0]) (fmt_cut HK.out hz (pad_none HS.out (by have := HK.out; omega)) (by rw [HG.out]))) z.below
  · have HG := hide (sign_pos h0)
    by_cases hz : digits = 0
    · have hzd : (digits == 0) = true := by simp; omega
      have HZ := hide hz
      clear hz
      go_enter Tryd.func12, Tryd.ntmps12
      go_wp2_with fail
      refine (Gives.first K.out).mono ?_
      rintro e w1 ⟨rfl, y1, rfl⟩
      go_wp2_with fail
      refine (Gives.after (Nat.le_refl _) (K2.out y1.val)).mono ?_
      rintro e w1 ⟨rfl, y2, rfl⟩
      go_wp2_with fail
      refine (KI.out n (by omega) y2).mono ?_
      rintro e w1 ⟨rfl, y3, rfl⟩
      go_wp2
      go_ret2
      exact Gives.mk (congrArg (fun s => Value.tuple #[.string s, .int .i64 0]) (fmt_whole HK.out HZ.out (pad_zero HK.out HZ.out HS.out) (by rw [HG.out]))) y3.below
    · have hzd : (digits == 0) = false := by simp; omega
      by_cases hsd : (S.size : Int) ≤ digits
      · have KR := hide fun y : After w.heap.size w => Gives.after (x := y) (Nat.le_refl _) (repeat_at (digits + 1 - S.size) R hR (by omega) (by omega) y.val)
        clear hR
        go_enter Tryd.func12, Tryd.ntmps12
        go_wp2_with fail
        refine (Gives.first K.out).mono ?_
        rintro e w1 ⟨rfl, y1, rfl⟩
        go_wp2_with fail
        refine (Gives.after (Nat.le_refl _) (K2.out y1.val)).mono ?_
        rintro e w1 ⟨rfl, y2, rfl⟩
        go_wp2_with fail
        refine (KI.out n (by omega) y2).mono ?_
        rintro e w1 ⟨rfl, y3, rfl⟩
        go_wp2_with fail
        refine (KR.out y3).mono ?_
        rintro e w1 ⟨rfl, y4, rfl⟩
        go_wp2
        refine wp_region_after y4 (by kernel_rfl) (by kernel_rfl) ?_
        repeat (go_big_quiet_step (fail))
        refine wpQuiet_nil ?_
        intro z
        go_wp2
        go_ret2
        refine Gives.mk (congrArg (fun s => Value.tuple #[.string s, .int .i64 0]) ?_) z.below
        have := fmt_cut HK.out hz (RS.out hsd) (sign := ⟨#[]⟩) (by rw [HG.out])
        simpa using this
      · clear hR hRn
        go_enter Tryd.func12, Tryd.ntmps12
        go_wp2_with fail
        refine (Gives.first K.out).mono ?_
        rintro e w1 ⟨rfl, y1, rfl⟩
        go_wp2_with fail
        refine (Gives.after (Nat.le_refl _) (K2.out y1.val)).mono ?_
        rintro e w1 ⟨rfl, y2, rfl⟩
        go_wp2_with fail
        refine (KI.out n (by omega) y2).mono ?_
        rintro e w1 ⟨rfl, y3, rfl⟩
        go_wp2
        refine wp_region_after y3 (by kernel_rfl) (by kernel_rfl) ?_
        repeat (go_big_quiet_step (fail))
        refine wpQuiet_nil ?_
        intro z
        go_wp2
        go_ret2
        exact Gives.mk (congrArg (fun s => Value.tuple #[.string s, .int .i64 0]) (fmt_cut HK.out hz (pad_none HS.out (by have := HK.out; omega)) (by rw [HG.out]))) z.below
end Go.Proofs.YtplblogdgbnbdaaDoor
