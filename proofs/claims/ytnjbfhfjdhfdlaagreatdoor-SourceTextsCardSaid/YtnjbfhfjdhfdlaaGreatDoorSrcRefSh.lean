/- The reference's Format, at no decimal places: the decimal text of a number. loftblockref31.line, set, link: the lines that the reference writes. loftblockref31.link, House and Sheet: the text that the reference writes. loftblockref31.Sheet: the text of a cue sheet that the reference writes. -/
import Derived.Test.YtnjbfhfjdhfdlaaGreatDoorDecLib
import Derived.Lib.ItoaNum
import Derived.Test.YtnjbfhfjdhfdlaaGreatDoorBase
import Derived.Test.YtnjbfhfjdhfdlaaGreatDoorDigits
import Derived.Test.YtnjbfhfjdhfdlaaGreatDoorSrcFmt
namespace Go.Proofs.YtnjbfhfjdhfdlaaGreatDoor
open Go Go.Lib

/-- a numeral of at least m digits -/
theorem dg_far (u j : Nat) (h : nDigits u ≤ j) : dg u j = 48 := by
  have h1 := lt_pow_nDigits u
  have h2 : 10 ^ nDigits u ≤ 10 ^ j := Nat.pow_le_pow_right (by decide) h
  unfold dg
  rw [Nat.div_eq_of_lt (by omega)]
  rfl
theorem lowDigits_far (u : Nat) : ∀ j, lowDigits u (j + nDigits u) = List.replicate j 48 ++ decDigits u
  | 0 => by simp [decDigits_low]
  | j + 1 => by
    rw [Nat.add_right_comm]
    simp only [lowDigits, List.replicate_succ, List.cons_append]
    rw [lowDigits_far u j, dg_far u _ (by omega)]
theorem padDec_low (u m : Nat) : padDec u m = lowDigits u (max m (nDigits u)) := by
  unfold padDec
  rw [← lowDigits_far, show m - nDigits u + nDigits u = max m (nDigits u) by omega]
theorem padDec_length (u m : Nat) : (padDec u m).length = max m (nDigits u) := by rw [padDec_low, lowDigits_length]
theorem padDec_split (u k : Nat) : padDec u (k + 1) = decDigits (u / 10 ^ k) ++ lowDigits u k := by
  rw [padDec_low, ← nDigits_div, lowDigits_add, decDigits_low]
theorem padDec_take (u k : Nat) : (padDec u (k + 1)).take ((padDec u (k + 1)).length - k) = decDigits (u / 10 ^ k) := by
  rw [padDec_split]
  simp [lowDigits_length]
theorem padDec_drop (u k : Nat) : (padDec u (k + 1)).drop ((padDec u (k + 1)).length - k) = lowDigits u k := by
  rw [padDec_split]
  simp [lowDigits_length]
/-- the decimal text of a number that is not negative -/
def fmtAbs (u k : Nat) : List UInt8 := decDigits (u / 10 ^ k) ++ if k = 0 then [] else 46 :: lowDigits u k
/-- the decimal text of a number -/
def fmtL (n : Int) (k : Nat) : List UInt8 := (if n < 0 then [45] else []) ++ fmtAbs n.natAbs k
theorem fmtAbs_zero (u : Nat) : fmtAbs u 0 = decDigits u := by simp [fmtAbs]
theorem padDec_one (u : Nat) : padDec u 1 = decDigits u := by
  have := nDigits_pos u
  unfold padDec
  rw [show 1 - nDigits u = 0 by omega]
  rfl
theorem fmtAbs_cut (u k : Nat) (hk : 0 < k) : fmtAbs u k = (padDec u (k + 1)).take ((padDec u (k + 1)).length - k) ++ 46 :: (padDec u (k + 1)).drop ((padDec u (k + 1)).length - k) := by
  rw [padDec_take, padDec_drop, fmtAbs, if_neg (by omega)]
end Go.Proofs.YtnjbfhfjdhfdlaaGreatDoor
namespace Go.Proofs.YtnjbfhfjdhfdlaaGreatDoor
open Go.RowKit

/-- the text of one byte, made out of a slice of one byte -/
theorem run_byte_string (w : World) (n : Int) (h : 0 ≤ n) (h2 : n ≤ 255) :
    (convert 66 9 (.slice (some ⟨w.heap.size, 0, none⟩) 1 1)).run Tryz.prog (w.alloc (.cells #[.int .u8 n] 5)) = .ok (.string ⟨#[UInt8.ofNat n.toNat]⟩) (w.alloc (.cells #[.int .u8 n] 5)) := by
  refine run_convert_bytes_back (P := Tryz.prog) (w.alloc (.cells #[.int .u8 n] 5)) 66 9 5 ⟨w.heap.size, 0, none⟩ 1 [UInt8.ofNat n.toNat] Tryz.underlying66 Tryz.underlying5 Tryz.underlying9 ?_
  intro j hj
  have : j = 0 := by simpa using hj
  subst this
  have e : ((UInt8.ofNat n.toNat).toNat : Int) = n := by
    have := UInt8.toNat_ofNat_of_lt' (n := n.toNat) (show n.toNat < UInt8.size by simp only [UInt8.size]; omega)
    rw [this]; omega
  have := World.cell?_alloc_mark w #[.int .u8 n] 5 (0, 0) 0
  simp only [List.getElem_cons_zero, e]
  exact this

/-- how far the reference's loop is: j digits are laid, v is what is left -/
def DigitsTo (u least j v : Nat) (s : ByteArray) : Prop := v = u / 10 ^ j ∧ s = ⟨(lowDigits u j).toArray⟩ ∧ j ≤ max least (Lib.nDigits u)
theorem DigitsTo.start (u least : Nat) : DigitsTo u least 0 u ⟨#[]⟩ := ⟨by simp, by simp [lowDigits], Nat.zero_le _⟩
theorem DigitsTo.size {u least j v : Nat} {s : ByteArray} (h : DigitsTo u least j v s) : s.size = j := by
  rw [h.2.1]; show (lowDigits u j).toArray.size = j; simp [lowDigits_length]
theorem DigitsTo.next {u least j v : Nat} {s : ByteArray} (h : DigitsTo u least j v s) (hg : 0 < v ∨ j < least) : DigitsTo u least (j + 1) (v / 10) (⟨#[UInt8.ofNat (48 + v % 10)]⟩ ++ s) := by
  obtain ⟨h1, h2, h3⟩ := h
  refine ⟨by rw [h1, Nat.div_div_eq_div_mul, Nat.pow_succ], ?_, ?_⟩
  · rw [h2]
    apply ByteArray.ext
    rw [ByteArray.data_append]
    simp [lowDigits, Lib.dg, h1]
  · rcases hg with hg | hg
    · have : ¬ Lib.nDigits u ≤ j := fun hle => by
        have h4 := Lib.lt_pow_nDigits u
        have h5 : 10 ^ Lib.nDigits u ≤ 10 ^ j := Nat.pow_le_pow_right (by decide) hle
        rw [Nat.div_eq_of_lt (by omega)] at h1
        omega
      omega
    · omega
theorem DigitsTo.last {u least j v : Nat} {s : ByteArray} (h : DigitsTo u least j v s) (hl : 1 ≤ least) (hv : v = 0) (hj : least ≤ j) : s = ⟨(padDec u least).toArray⟩ := by
  obtain ⟨h1, h2, h3⟩ := h
  have : j = max least (Lib.nDigits u) := by
    rcases Nat.lt_or_ge j (Lib.nDigits u) with hlt | hge
    · obtain ⟨k, hk⟩ : ∃ k, j = k + 1 := ⟨j - 1, by omega⟩
      have := nDigits_le u k (by
        rw [hv] at h1
        rw [← hk]
        exact (Nat.div_eq_zero_iff_lt (Nat.pow_pos (by decide))).1 h1.symm)
      omega
    · omega
  rw [h2, padDec_low, this]

set_option maxHeartbeats 1000000 in
set_option maxRecDepth 100000 in
theorem refDigits_any (u : Nat) (n least : Int) (hn : n = u) (k : Nat) (hk : least = k) (hl : 1 ≤ least) (hl2 : least ≤ 10) (hu : n ≤ 1152921504606846976) (w : World) :
    Calls Tryz.prog 137 #[.int .i64 n, .int .i64 least] w (Gives w (.string ⟨(padDec u k).toArray⟩)) := by
  have hnd : max k (Lib.nDigits u) ≤ 20 := by
    have := nDigits_le u 18 (by omega)
    omega
  have hn0 : 0 ≤ n := by omega
  have HD := hide hnd
  have HN := hide hn
  have HK := hide hk
  clear hnd hn hk
  go_enter Tryz.func137, Tryz.ntmps137
  go_wp2
  go_loopw [0, 5] (fun n o wr => ∃ (a : Int) (s : ByteArray), n = .int .i64 a ∧ o = .string s ∧ Hid (∃ (v j : Nat), a = v ∧ DigitsTo u k j v s) ∧ 0 ≤ a ∧ a ≤ 1152921504606846976 ∧ ∃ x : After w.heap.size w, wr = x.val) (fun _ o _ => 20 - (match o with | .string s => s.size | _ => 0))
  case atStart => exact ⟨n, _, rfl, rfl, hide ⟨u, 0, HN.out, DigitsTo.start u k⟩, hn0, hu, After.refl _ _, rfl⟩
  case round =>
    obtain ⟨a, s, rfl, rfl, hd, ha, ha2, x, rfl⟩ := hrel
    have hm := Int.emod_nonneg a (show (10 : Int) ≠ 0 by decide)
    have hm2 := Int.emod_lt_of_pos a (show (0 : Int) < 10 by decide)
    have kc := run_byte_string x.val (48 + a % 10) (by omega) (by omega)
    have hsz : s.size ≤ 20 := by obtain ⟨v, j, _, hd⟩ := hd; have := hd.size; have := hd.2.2; have := HD.out; omega
    have nx : 0 < a ∨ (s.size : Int) < least → Hid (∃ (v' j' : Nat), a / 10 = v' ∧ DigitsTo u k j' v' (⟨#[UInt8.ofNat (48 + a % 10).toNat]⟩ ++ s)) := by
      intro hg
      obtain ⟨v, j, rfl, hd⟩ := hd
      have hsz := hd.size
      have hk := HK.out
      refine hide ⟨v / 10, j + 1, by omega, ?_⟩
      have := hd.next (by omega)
      rwa [show (48 + (v : Int) % 10).toNat = 48 + v % 10 by omega]
    have NX := hide nx
    have la : ¬ 0 < a → ¬ (s.size : Int) < least → s = ⟨(padDec u k).toArray⟩ := by
      intro h1 h2
      obtain ⟨v, j, rfl, hd⟩ := hd
      have hsz := hd.size
      have hk := HK.out
      exact hd.last (by omega) (by omega) (by omega)
    have LA := hide la
    clear la nx
    by_cases hg : 0 < a
    · go_wp2
      go_roundw
      case rel => exact ⟨a / 10, _, rfl, rfl, NX.out (Or.inl hg), by omega, by omega, After.exists_iff (x.below.trans ((Below.refl _ _).alloc x.size _))⟩
      case measure =>
        obtain ⟨v', j', _, hd'⟩ := NX.out (Or.inl hg)
        have h1 := hd'.size
        have h2 := hd'.2.2
        have h3 := HD.out
        rw [ByteArray.size_append] at h1
        have h4 : (⟨#[UInt8.ofNat (48 + a % 10).toNat]⟩ : ByteArray).size = 1 := rfl
        simp [ByteArray.size_append]
        omega
    · by_cases hg2 : (s.size : Int) < least
      · go_wp2
        go_roundw
        case rel => exact ⟨a / 10, _, rfl, rfl, NX.out (Or.inr hg2), by omega, by omega, After.exists_iff (x.below.trans ((Below.refl _ _).alloc x.size _))⟩
        case measure =>
          obtain ⟨v', j', _, hd'⟩ := NX.out (Or.inr hg2)
          have h1 := hd'.size
          have h2 := hd'.2.2
          have h3 := HD.out
          rw [ByteArray.size_append] at h1
          have h4 : (⟨#[UInt8.ofNat (48 + a % 10).toNat]⟩ : ByteArray).size = 1 := rfl
          simp [ByteArray.size_append]
          omega
      · go_wp2
        go_ret
        exact Gives.mk (congrArg Value.string (LA.out hg hg2)) x.below

theorem sign_neg {n : Int} (h : n < 0) : (if n < 0 then [45] else [] : List UInt8) = [45] := if_pos h
theorem sign_pos {n : Int} (h : ¬ n < 0) : (if n < 0 then [45] else [] : List UInt8) = [] := if_neg h
/-- the text put together out of its pieces -/
theorem fmt_cut {n digits : Int} {k : Nat} {S sign : ByteArray} (hk : digits = k) (h0 : ¬ digits = 0) (hS : S = ⟨(padDec n.natAbs (k + 1)).toArray⟩) (hs : sign = ⟨(if n < 0 then [45] else [] : List UInt8).toArray⟩) :
    sign ++ S.extract 0 ((S.size : Int) - digits).toNat ++ ⟨#[46]⟩ ++ S.extract ((S.size : Int) - digits).toNat S.size = ⟨(fmtL n k).toArray⟩ := by
  have hl : S.size = (padDec n.natAbs (k + 1)).length := by rw [hS]; show (padDec n.natAbs (k + 1)).toArray.size = _; simp
  have he : ((S.size : Int) - digits).toNat = (padDec n.natAbs (k + 1)).length - k := by omega
  have hd : S.data.toList = padDec n.natAbs (k + 1) := by rw [hS]
  rw [he, Lib.extract_eq, Lib.extract_eq, hd, hs]
  apply ByteArray.ext
  simp only [ByteArray.data_append]
  unfold fmtL
  rw [fmtAbs_cut _ _ (by omega), ← Array.toList_inj]
  simp only [List.drop_zero, Nat.sub_zero, Array.toList_append, hl]
  rw [List.take_of_length_le (l := (padDec n.natAbs (k + 1)).drop _) (by simp)]
  simp
theorem fmt_whole {n digits : Int} {k : Nat} {S sign : ByteArray} (hk : digits = k) (h0 : digits = 0) (hS : S = ⟨(padDec n.natAbs (k + 1)).toArray⟩) (hs : sign = ⟨(if n < 0 then [45] else [] : List UInt8).toArray⟩) :
    sign ++ S = ⟨(fmtL n k).toArray⟩ := by
  have : k = 0 := by omega
  subst this
  rw [hS, hs]
  apply ByteArray.ext
  simp only [ByteArray.data_append]
  unfold fmtL
  rw [fmtAbs_zero, padDec_one]
  simp

set_option maxHeartbeats 1000000 in
set_option maxRecDepth 100000 in
theorem refFormat_any (n digits : Int) (k : Nat) (hk : digits = k) (hd : digits ≤ 9) (hn : -1152921504606846976 ≤ n) (hn2 : n ≤ 1152921504606846976) (w : World) :
    Calls Tryz.prog 101 #[.int .i64 n, .int .i64 digits] w (Gives w (.string ⟨(fmtL n k).toArray⟩)) := by
  obtain ⟨S, hS⟩ : ∃ S : ByteArray, S = ⟨(padDec n.natAbs (k + 1)).toArray⟩ := ⟨_, rfl⟩
  have hsz : S.size = max (k + 1) (Lib.nDigits n.natAbs) := by rw [hS]; show (padDec n.natAbs (k + 1)).toArray.size = _; simp [padDec_length]
  have hsz2 : S.size ≤ 20 := by have := nDigits_le n.natAbs 18 (by omega); omega
  have hkS : digits < (S.size : Int) := by omega
  have hd0 : 0 ≤ digits := by omega
  have HK := hide hk
  have HS := hide hS
  have KD := hide fun (m : Int) (hm : m = n.natAbs) (hm2 : m ≤ 1152921504606846976) (w : World) => (hS ▸ refDigits_any n.natAbs m (digits + 1) hm (k + 1) (by omega) (by omega) (by omega) hm2 w : Calls Tryz.prog 137 #[.int .i64 m, .int .i64 (digits + 1)] w (Gives w (.string S)))
  clear hk hS hsz
  by_cases h0 : n < 0
  · have HG := hide (sign_neg h0)
    by_cases hz : digits = 0
    · have hzd : (digits == 0) = true := by simp; omega
      have HZ := hide hz
      clear hz
      go_enter Tryz.func101, Tryz.ntmps101
      go_wp2_with fail
      refine (Gives.first (KD.out (-n) (by omega) (by omega) w)).mono ?_
      rintro e w1 ⟨rfl, y1, rfl⟩
      go_wp2
      go_ret
      exact Gives.mk (congrArg Value.string (fmt_whole HK.out HZ.out HS.out (by rw [HG.out]))) y1.below
    · have hzd : (digits == 0) = false := by simp; omega
      go_enter Tryz.func101, Tryz.ntmps101
      go_wp2_with fail
      refine (Gives.first (KD.out (-n) (by omega) (by omega) w)).mono ?_
      rintro e w1 ⟨rfl, y1, rfl⟩
      go_wp2
      refine wp_region_after y1 (by kernel_rfl) (by kernel_rfl) ?_
      repeat (go_big_quiet_step (fail))
      refine wpQuiet_nil ?_
      intro z
      go_wp2
      go_ret
      exact Gives.mk (congrArg Value.string (fmt_cut HK.out hz HS.out (by rw [HG.out]))) z.below
  · have HG := hide (sign_pos h0)
    by_cases hz : digits = 0
    · have hzd : (digits == 0) = true := by simp; omega
      have HZ := hide hz
      clear hz
      go_enter Tryz.func101, Tryz.ntmps101
      go_wp2_with fail
      refine (Gives.first (KD.out n (by omega) (by omega) w)).mono ?_
      rintro e w1 ⟨rfl, y1, rfl⟩
      go_wp2
      go_ret
      exact Gives.mk (congrArg Value.string (fmt_whole HK.out HZ.out HS.out (by rw [HG.out]))) y1.below
    · have hzd : (digits == 0) = false := by simp; omega
      go_enter Tryz.func101, Tryz.ntmps101
      go_wp2_with fail
      refine (Gives.first (KD.out n (by omega) (by omega) w)).mono ?_
      rintro e w1 ⟨rfl, y1, rfl⟩
      go_wp2
      refine wp_region_after y1 (by kernel_rfl) (by kernel_rfl) ?_
      repeat (go_big_quiet_step (fail))
      refine wpQuiet_nil ?_
      intro z
      go_wp2
      go_ret
      exact Gives.mk (congrArg Value.string (fmt_cut HK.out hz HS.out (by rw [HG.out]))) z.below

theorem fmtL_itoa (n : Int) : fmtL n 0 = Lib.itoa n := by
  unfold fmtL Lib.itoa
  rw [fmtAbs_zero]
  by_cases h : n < 0
  · rw [if_pos h, if_pos h]; rfl
  · rw [if_neg h, if_neg h, show n.natAbs = n.toNat by omega]; rfl
theorem refFormat0_any (n : Int) (hn : -1000000000000000 < n ∧ n < 1000000000000000) (w : World) : Calls Tryz.prog 101 #[.int .i64 n, .int .i64 0] w (Gives w (.string ⟨(Lib.itoa n).toArray⟩)) := by
  rw [← fmtL_itoa]
  exact refFormat_any n 0 0 rfl (by decide) (by omega) (by omega) w
end Go.Proofs.YtnjbfhfjdhfdlaaGreatDoor
namespace Go.Proofs.YtnjbfhfjdhfdlaaGreatDoor
open Go Go.RowKit

/-- words and numbers, as the reference joins them -/
def lnL (ws : List UInt8) (l : List Int) : List UInt8 := ws ++ l.flatMap (fun n => 32 :: Lib.itoa n) ++ [10]
def lnB (ws : ByteArray) (l : List Int) : ByteArray := ⟨(lnL (bs ws) l).toArray⟩
def MidI (n : Int) : Prop := -1000000000000000 < n ∧ n < 1000000000000000
theorem MidI.len {n : Int} (h : MidI n) : (Lib.itoa n).length ≤ 16 := shortN_len (shortN_of h)
theorem bs_add (a b : ByteArray) : bs (a ++ b) = bs a ++ bs b := by simp [bs_data, ByteArray.data_append]
theorem join_flat : ∀ (l : List (List UInt8)) (w : List UInt8), joinW (w :: l) = w ++ l.flatMap (fun v => 32 :: v)
  | [], w => by simp [joinW]
  | v :: l, w => by
    rw [joinW, join_flat l v, List.flatMap_cons]; simp
theorem lnL_line {pre : List UInt8} {ws : List Wd} {l : List Int} (hne : ws ≠ []) (hp : pre = joinW (ws.map wb)) : lnL pre l = lineT (ws ++ nums l) := by
  cases ws with
  | nil => exact absurd rfl hne
  | cons w ws =>
    unfold lnL lineT
    rw [hp, List.cons_append, List.map_cons, List.map_cons, join_flat, join_flat, List.map_append, List.flatMap_append, nums, List.map_map, List.flatMap_map]
    simp [Function.comp_def, wb, List.flatMap_map]
theorem lnL_size {ws : List UInt8} {l : List Int} (hl : ∀ n ∈ l, MidI n) : (lnL ws l).length ≤ ws.length + 17 * l.length + 1 := by
  have h := flat_len (f := fun n => 32 :: Lib.itoa n) (K := 17) l (fun n hn => by have := (hl n hn).len; simp only [List.length_cons]; omega)
  unfold lnL
  rw [List.length_append, List.length_append, List.length_singleton]
  omega
theorem lnB_size {ws : ByteArray} {l : List Int} (hl : ∀ n ∈ l, MidI n) : (lnB ws l).size ≤ ws.size + 17 * l.length + 1 := by
  have h := lnL_size (ws := bs ws) hl
  rw [bs_length] at h
  exact h
set_option maxRecDepth 100000 in
set_option maxHeartbeats 4000000 in
theorem refLine_any (ws : ByteArray) (hws : ws.size ≤ 1000) (S : Sl Int) (hS : ∀ n ∈ S.l, MidI n) (hl : S.l.length ≤ 100) (w : World) (B : Nat) (hB : B ≤ w.heap.size) (hat : SlAt w B 1 intCells S) :
    Calls Tryz.prog 61 #[.string ws, .slice S.A S.l.length S.cap] w (Gives w (.string (lnB ws S.l))) := by
  have hat2 : SlAt w w.heap.size 1 intCells S := hat.to (Below.refl _ _) hB
  have HAT := hide hat2
  have hm : S.cap ≤ 9223372036854775807 := hat.2.1
  have hlc : S.l.length ≤ S.cap := hat.1
  have KF := hide (fun (n : Int) (hn : MidI n) (y : After w.heap.size w) => Gives.after (x := y) (Nat.le_refl _) (refFormat0_any n hn y.val))
  obtain ⟨A, cap, l⟩ := S
  simp only at *
  have HS := hide hS
  clear hat hat2 hS
  go_enter Tryz.func61, Tryz.ntmps61
  go_wp2_with fail
  go_loopw [0, 5] (fun t v wr => ∃ (k : Nat) (T : ByteArray), t = .string T ∧ v = .int .i64 k ∧ k ≤ l.length ∧ T.size ≤ 1000 + 17 * k ∧ Hid (bs T = bs ws ++ (l.take k).flatMap (fun n => 32 :: Lib.itoa n)) ∧ ∃ y : After w.heap.size w, wr = y.val) (fun _ v _ => l.length - (intOf v).toNat)
  case atStart => exact ⟨0, ws, rfl, rfl, Nat.zero_le _, hws, hide (by simp), After.refl _ _, rfl⟩
  case round =>
    obtain ⟨k, T, rfl, rfl, hk, hTs, hT, y, rfl⟩ := hrel
    by_cases hlt : k < l.length
    · obtain ⟨bb, off, hA, hbb, hcell⟩ := HAT.out.2.2 (show 0 < l.length by omega)
      simp only at hA
      subst hA
      obtain ⟨n, hx⟩ : ∃ n, l[k]? = some n := ⟨l[k], List.getElem?_eq_getElem hlt⟩
      have hn := HS.out n (List.mem_of_getElem? hx)
      have he : y.val.cell? ⟨bb, off + k, none⟩ = some (.int .i64 n) := by
        have h := y.cell (hcell k n hx 0 _ rfl) hbb
        rw [show k * 1 + 0 = k by omega] at h
        exact h
      have hlen := hn.len
      have HKF := hide (KF.out n hn y)
      have hFs : (⟨(Lib.itoa n).toArray⟩ : ByteArray).size = (Lib.itoa n).length := by show (Lib.itoa n).toArray.size = _; simp
      have HNX := hide (show bs (T ++ ⟨#[32]⟩ ++ ⟨(Lib.itoa n).toArray⟩) = bs ws ++ (l.take (k + 1)).flatMap (fun n => 32 :: Lib.itoa n) by
        rw [bs_add, bs_add, hT.out, List.take_add_one, hx, List.flatMap_append]
        simp [bs_data])
      have s2 : (⟨#[32]⟩ : ByteArray).size = 1 := rfl
      have HSZ := hide (show (T ++ ⟨#[32]⟩ ++ ⟨(Lib.itoa n).toArray⟩ : ByteArray).size ≤ 1000 + 17 * (k + 1) by
        rw [ByteArray.size_append, ByteArray.size_append, hFs, s2]; omega)
      clear hcell hx hn hT
      go_wp2_with fail
      refine HKF.out.mono ?_
      rintro e w' ⟨rfl, z, rfl⟩
      go_wp2_with fail
      exact ⟨⟨k + 1, _, rfl, by go_num, by omega, HSZ.out, HNX, z, rfl⟩, by simp [intOf]; omega⟩
    · have s3 : (⟨#[10]⟩ : ByteArray).size = 1 := rfl
      have HE := hide (show T ++ ⟨#[10]⟩ = lnB ws l by
        apply bs_inj
        rw [bs_add, hT.out, List.take_of_length_le (by omega), lnB, bs_of, lnL]
        simp [bs_data])
      clear hT
      go_wp2_with fail
      go_ret
      exact Gives.mk (congrArg Value.string HE.out) y.below
theorem lit_sl (V : World) (l : List Int) (hl : l.length ≤ 1000) : SlAt (V.alloc (.cells (l.map (Value.int .i64)).toArray 3 (0, 0))) (V.alloc (.cells (l.map (Value.int .i64)).toArray 3 (0, 0))).heap.size 1 intCells ⟨some ⟨V.heap.size, 0, none⟩, l.length, l⟩ := by
  have h := own_lit (x := V.alloc (.cells (l.map (Value.int .i64)).toArray 3 (0, 0))) (g := V.heap.size) (base := V.heap.size) (e := 3) (l.map (Value.int .i64)) (heap_alloc_new V _) (Nat.le_refl _) (by rw [List.length_map]; exact hl)
  rw [List.length_map] at h
  exact slAt_own (base := V.heap.size) (e := 3) (fun _ => rfl) (by rw [ints_flat]; exact h)
/-- the reference's line, its numbers in a literal slice -/
theorem refLine_lit (V : World) (ws : ByteArray) (hws : ws.size ≤ 1000) (l : List Int) (hl : ∀ n ∈ l, MidI n) (hn : l.length ≤ 100) :
    Calls Tryz.prog 61 #[.string ws, .slice (some ⟨V.heap.size, 0, none⟩) l.length l.length] (V.alloc (.cells (l.map (Value.int .i64)).toArray 3 (0, 0))) (Gives (V.alloc (.cells (l.map (Value.int .i64)).toArray 3 (0, 0))) (.string (lnB ws l))) :=
  refLine_any ws hws ⟨some ⟨V.heap.size, 0, none⟩, l.length, l⟩ hl hn _ _ (Nat.le_refl _) (lit_sl V l (by omega))
theorem midI_short {n : Int} (h : shortN n) : MidI n := by
  unfold shortN at h
  rw [Lib.decDigits_length] at h
  have h2 := Lib.lt_pow_nDigits n.natAbs
  have h3 : 10 ^ Lib.nDigits n.natAbs ≤ 10 ^ 15 := Nat.pow_le_pow_right (by decide) h
  unfold MidI
  omega
theorem midI_of {l : List Int} (h : ∀ n ∈ l, shortN n) : ∀ n ∈ l, MidI n := fun n hn => midI_short (h n hn)
theorem below_ints {x y W : World} {size n : Nat} {v : Value} {xs : List Value} (hown : x.ownsRow W.heap.size 3 size v n xs) (hb : Below W.heap.size W x) (hg : x.grownBy y v.ownBlock) : Below W.heap.size W y := Below.grown hb hg hb.size (own_owner hown)
theorem name_size {b : ByteArray} (h : isName b = true) : b.size ≤ 20 := by
  have h2 : (bs b).length ≤ 20 := name_le h
  rwa [bs_length] at h2
/-- a line's words: the reference's text of them -/
theorem two_words {p n : ByteArray} {a : List UInt8} (hp : bs p = a ++ [32]) (l : List Int) : bs (lnB (p ++ n) l) = lineT (.wd a :: nameW n :: nums l) := by
  rw [lnB, bs_of]
  refine lnL_line (ws := [.wd a, nameW n]) (by simp) ?_
  rw [bs_add, hp]
  simp [joinW, wb, nameW]
/-- the lines of a set, as text -/
def setT (s : SetP) : List UInt8 := (setLns s).flatMap lineT
theorem setT_eq (s : SetP) : setT s = lineT (setLn s) ++ (s.items.map itemLn).flatMap lineT ++ (s.bricks.map brickLn).flatMap lineT := by
  unfold setT setLns
  rw [List.flatMap_cons, List.flatMap_append, List.append_assoc]
theorem map_flat_next {α : Type} {l : List α} {k : Nat} {x : α} (f : α → List Wd) (h : l[k]? = some x) : ((l.take (k + 1)).map f).flatMap lineT = ((l.take k).map f).flatMap lineT ++ lineT (f x) := by
  rw [List.take_add_one, h]; simp
set_option maxRecDepth 100000 in
set_option maxHeartbeats 8000000 in
theorem refSetT_any (s : SetD) (hf : s.pl.fit) (hln : s.lines.l.length ≤ 10) (hit : s.items.l.length ≤ 40) (hbr : s.bricks.l.length ≤ 8) (w : World) (B : Nat) (hB : B ≤ w.heap.size) (hat : SetD.at_ w B s) :
    Calls Tryz.prog 62 #[.agg #[.string s.name, .int .i64 s.depth, .int .i64 s.low, .int .i64 s.high, .int .i64 s.length, .slice s.lines.A s.lines.l.length s.lines.cap, .int .i64 s.pipe, .int .i64 s.arbor, .int .i64 s.purchase, .int .i64 s.most, .int .i64 s.brake, .slice s.items.A s.items.l.length s.items.cap, .slice s.bricks.A s.bricks.l.length s.bricks.cap]] w (Gives w (.string ⟨(setT s.pl).toArray⟩)) := by
  obtain ⟨W, hW, hWs, hWb, hWh⟩ := boxed w (.cells #[.string s.name, .int .i64 s.depth, .int .i64 s.low, .int .i64 s.high, .int .i64 s.length, .slice s.lines.A s.lines.l.length s.lines.cap, .int .i64 s.pipe, .int .i64 s.arbor, .int .i64 s.purchase, .int .i64 s.most, .int .i64 s.brake, .slice s.items.A s.items.l.length s.items.cap, .slice s.bricks.A s.bricks.l.length s.bricks.cap] 63)
  have hc := fun y : After W.heap.size W => SetD.boxed hWh (by omega) y
  have hbd : ∀ y : After W.heap.size W, Below w.heap.size w y.val := fun y => hWb.trans (y.below.mono (by omega))
  have hatW := hat.to (hWb.mono hB) (show B ≤ W.heap.size by omega)
  have HAT := hide hatW
  have hlo : s.lines.l ≠ [] := hf.some
  have hm1 : s.lines.l.length ≤ s.lines.cap := hatW.lines.1
  have hm2 : s.lines.cap ≤ 9223372036854775807 := hatW.lines.2.1
  have hm3 : s.items.l.length ≤ s.items.cap := hatW.items.1
  have hm4 : s.items.cap ≤ 9223372036854775807 := hatW.items.2.1
  have hm5 : s.bricks.l.length ≤ s.bricks.cap := hatW.bricks.1
  have hm6 : s.bricks.cap ≤ 9223372036854775807 := hatW.bricks.2.1
  have HF := hide hf
  have HBD := hide hbd
  have HWH := hide hWh
  have HW := hide hW
  obtain ⟨R, hR⟩ : ∃ R, R = setT s.pl := ⟨_, rfl⟩
  rw [← hR]
  have HR := hide (hR.trans (setT_eq s.pl))
  have hl0 : 0 < s.lines.l.length := by
    rcases Nat.eq_zero_or_pos s.lines.l.length with h | h
    · exact absurd (List.eq_nil_of_length_eq_zero h) hlo
    · exact h
  have hns := name_size hf.name
  clear hW hWh hWb hbd hat hatW hf hlo hR
  obtain ⟨qn, qd, ql, qh, qe, ⟨qA, qc, qll⟩, qp, qr, qu, qm, qb, ⟨iA, ic, il⟩, ⟨bA, bc, bl⟩⟩ := s
  simp only at *
  have hns2 : qn.size ≤ 20 := hns
  clear hns
  obtain ⟨lb, lo, hA, -, -⟩ := HAT.out.lines.2.2 hl0
  simp only at hA
  subst hA
  have HSL := hide (fun (u : World) (hu : Below W.heap.size W u) => lines_news (HAT.out.lines.below hu))
  obtain ⟨i0, hi0, hz0, hs0, hb0⟩ := info_parts infoInt
  have HI0 := hide (And.intro hi0 (And.intro hz0 (And.intro hs0 hb0)))
  have hcS := fun (y : World) (hy : y.heap[w.heap.size]? = some (.cells #[.string qn, .int .i64 qd, .int .i64 ql, .int .i64 qh, .int .i64 qe, .slice (some ⟨lb, lo, none⟩) qll.length qc, .int .i64 qp, .int .i64 qr, .int .i64 qu, .int .i64 qm, .int .i64 qb, .slice iA il.length ic, .slice bA bl.length bc] 63 (0, 0))) => SetD.boxed (s := ⟨qn, qd, ql, qh, qe, ⟨some ⟨lb, lo, none⟩, qc, qll⟩, qp, qr, qu, qm, qb, ⟨iA, ic, il⟩, ⟨bA, bc, bl⟩⟩) (B := y.heap.size) hy (Array.getElem?_eq_some_iff.1 hy).1 (After.refl _ _)
  simp only [After.refl] at hcS
  have HK1 := hide (fun o : Obj => (heap_alloc_old W o (Array.getElem?_eq_some_iff.1 HWH.out).1).trans HWH.out)
  have hnine : ∀ n ∈ [qd, ql, qh, qe, qp, qr, qu, qm, qb] ++ qll, MidI n := fun n hn => by
    rcases List.mem_append.1 hn with hn | hn
    · exact midI_of HF.out.nums n hn
    · exact midI_of HF.out.lines n hn
  have hW0 : Below W.heap.size W (W.alloc (.cells #[.int .i64 qd, .int .i64 ql, .int .i64 qh, .int .i64 qe, .int .i64 qp, .int .i64 qr, .int .i64 qu, .int .i64 qm, .int .i64 qb] 3 (0, 0))).drew := ((Below.refl _ _).alloc (Nat.le_refl _) _).drew
  have HB1 := hide hW0
  have HN1 := hide (own_lit (x := (W.alloc (.cells #[.int .i64 qd, .int .i64 ql, .int .i64 qh, .int .i64 qe, .int .i64 qp, .int .i64 qr, .int .i64 qu, .int .i64 qm, .int .i64 qb] 3 (0, 0))).drew) (g := W.heap.size) (base := W.heap.size) (e := 3) [.int .i64 qd, .int .i64 ql, .int .i64 qh, .int .i64 qe, .int .i64 qp, .int .i64 qr, .int .i64 qu, .int .i64 qm, .int .i64 qb] (heap_alloc_new W (.cells #[.int .i64 qd, .int .i64 ql, .int .i64 qh, .int .i64 qe, .int .i64 qp, .int .i64 qr, .int .i64 qu, .int .i64 qm, .int .i64 qb] 3 (0, 0))) (Nat.le_refl _) (by simp))
  have s4 : (⟨#[115, 101, 116, 32]⟩ : ByteArray).size = 4 := rfl
  have s32 : (⟨#[32]⟩ : ByteArray).size = 1 := rfl
  have hlen9 : 9 + qll.length = ([qd, ql, qh, qe, qp, qr, qu, qm, qb] ++ qll).length := by simp; omega
  obtain ⟨T0, hT0⟩ : ∃ T0, T0 = lnB (⟨#[115, 101, 116, 32]⟩ ++ qn) ([qd, ql, qh, qe, qp, qr, qu, qm, qb] ++ qll) := ⟨_, rfl⟩
  have KL := hide (fun (x : World) (A : Option Addr) (cap : Nat) (hn : x.ownsRow W.heap.size 3 1 (.slice A (9 + qll.length) cap) (9 + qll.length) ([.int .i64 qd, .int .i64 ql, .int .i64 qh, .int .i64 qe, .int .i64 qp, .int .i64 qr, .int .i64 qu, .int .i64 qm, .int .i64 qb] ++ qll.map (Value.int .i64))) => (show Calls Tryz.prog 61 #[.string (⟨#[115, 101, 116, 32]⟩ ++ qn), .slice A (9 + qll.length) cap] x (Gives x (.string T0)) by
    rw [hT0, hlen9]
    refine refLine_any _ (by rw [ByteArray.size_append, s4]; omega) ⟨A, cap, [qd, ql, qh, qe, qp, qr, qu, qm, qb] ++ qll⟩ hnine (by rw [← hlen9]; omega) x x.heap.size (Nat.le_refl _) (slAt_own (base := W.heap.size) (e := 3) (fun _ => rfl) ?_)
    rw [ints_flat]
    show x.ownsRow _ _ _ (.slice A ([qd, ql, qh, qe, qp, qr, qu, qm, qb] ++ qll).length cap) ([qd, ql, qh, qe, qp, qr, qu, qm, qb] ++ qll).length _
    rw [← hlen9, List.map_append]
    exact hn))
  have HSZ1 := hide (lnB_size (ws := ⟨#[115, 101, 116, 32]⟩ ++ qn) hnine)
  have hsz1 := HSZ1.out
  rw [ByteArray.size_append, s4, ← hlen9, ← hT0] at hsz1
  have HT0 := hide (show bs T0 = lineT (setLn (SetD.pl ⟨qn, qd, ql, qh, qe, ⟨some ⟨lb, lo, none⟩, qc, qll⟩, qp, qr, qu, qm, qb, ⟨iA, ic, il⟩, ⟨bA, bc, bl⟩⟩)) from hT0 ▸ two_words (a := wSet) (by simp [bs_data, wSet]) _)
  clear hi0 hz0 hs0 hb0 hW0 hnine hT0 HSZ1 hlen9
  have hgs0 : w.heap.size < W.heap.size := by omega
  have hnb1 : ¬ 9223372036854775807 < 4 + qn.size := by omega
  clear hWs
  go_enter Tryz.func62, Tryz.ntmps62
  go_upto_region 1 with fail
  rw [← HW.out]
  go_region_held3 (fun w' => w'.cell? ⟨w.heap.size, 0, none⟩ = some (.string qn) ∧ w'.cell? ⟨w.heap.size, 0 + 1, none⟩ = some (.int .i64 qd) ∧ w'.cell? ⟨w.heap.size, 0 + 2, none⟩ = some (.int .i64 ql) ∧ w'.cell? ⟨w.heap.size, 0 + 3, none⟩ = some (.int .i64 qh) ∧ w'.cell? ⟨w.heap.size, 0 + 4, none⟩ = some (.int .i64 qe) ∧ w'.cell? ⟨w.heap.size, 0 + 5, none⟩ = some (.slice (some ⟨lb, lo, none⟩) qll.length qc) ∧ w'.cell? ⟨w.heap.size, 0 + 6, none⟩ = some (.int .i64 qp) ∧ w'.cell? ⟨w.heap.size, 0 + 7, none⟩ = some (.int .i64 qr) ∧ w'.cell? ⟨w.heap.size, 0 + 8, none⟩ = some (.int .i64 qu) ∧ w'.cell? ⟨w.heap.size, 0 + 9, none⟩ = some (.int .i64 qm) ∧ w'.cell? ⟨w.heap.size, 0 + 10, none⟩ = some (.int .i64 qb) ∧ w'.cell? ⟨w.heap.size, 0 + 11, none⟩ = some (.slice iA il.length ic) ∧ w'.cell? ⟨w.heap.size, 0 + 12, none⟩ = some (.slice bA bl.length bc))
    (first | exact hcS _ HWH.out | exact hcS _ (HK1.out _) | exact hcS _ hgs7 | exact hcS _ hgs6)
    (first
      | (refine step_append_lies _ (by rfl) (.tmp 28) (.tmp 30) 59 (by rfl) W.heap.size 3 i0 (.int .i64 0) 1 8 Tryz.underlying59 HI0.out.1 HI0.out.2.1 HI0.out.2.2.1 HI0.out.2.2.2 rfl (by omega) (.slice (some ⟨W.heap.size, 0, none⟩) 9 9) 9 [.int .i64 qd, .int .i64 ql, .int .i64 qh, .int .i64 qe, .int .i64 qp, .int .i64 qr, .int .i64 qu, .int .i64 qm, .int .i64 qb] (by rfl) HN1.out ⟨lb, lo, none⟩ qll.length qc (qll.map (Value.int .i64)) (by rfl) (by simp) (HSL.out _ HB1.out) (fun u hu => by obtain ⟨q, _, rfl⟩ := List.mem_map.1 hu; rfl) (by omega) (by unfold maxLen; omega) (by omega) (by simp) _ rfl ?_; intro g6 cap6 w6 hown6 hgr6 hg6 hlt6; have hb6 := below_ints HN1.out HB1.out hgr6; have hgs6 := ints_grow HN1.out hgr6 w.heap.size _ _ _ (by decide) (HK1.out _))
      | (go_at_call 61; refine (KL.out _ _ _ hown6).mono ?_; rintro e w7 ⟨rfl, hb67⟩; have hb7 := hb6.trans (hb67.mono hb6.size); have hgs7 := (hb67.block _ (Array.getElem?_eq_some_iff.1 hgs6).1).trans hgs6))
  clear KL
  obtain ⟨L0, hL0⟩ : ∃ L0, L0 = lineT (setLn (SetD.pl ⟨qn, qd, ql, qh, qe, ⟨some ⟨lb, lo, none⟩, qc, qll⟩, qp, qr, qu, qm, qb, ⟨iA, ic, il⟩, ⟨bA, bc, bl⟩⟩)) := ⟨_, rfl⟩
  rw [← hL0] at HT0 HR
  clear hL0
  have hs7 := hc ⟨w7, hb7⟩
  go_wp2_with fail
  go_loopw [3, 4] (fun t v wr => ∃ (k : Nat) (T : ByteArray), t = .string T ∧ v = .int .i64 k ∧ k ≤ il.length ∧ T.size ≤ 400 + 442 * k ∧ Hid (bs T = L0 ++ ((il.take k).map itemLn).flatMap lineT) ∧ ∃ y : After W.heap.size W, wr = y.val) (fun _ v _ => il.length - (intOf v).toNat)
  case atStart => exact ⟨0, T0, rfl, rfl, Nat.zero_le _, by omega, hide (by rw [HT0.out]; simp), ⟨_, by first | exact hb7 | exact hb7.drew⟩, rfl⟩
  case round =>
    obtain ⟨k, T, rfl, rfl, hk, hTs, hT, y, rfl⟩ := hrel
    have hcy := hc y
    by_cases hlt : k < il.length
    · obtain ⟨xb, xo, hA, hxb, hcell⟩ := HAT.out.items.2.2 (show 0 < il.length by omega)
      simp only at hA
      subst hA
      obtain ⟨i, hi⟩ : ∃ i, il[k]? = some i := ⟨il[k], List.getElem?_eq_getElem hlt⟩
      have he := ItemD.elem hi hxb hcell y
      obtain ⟨hin, hik⟩ := HF.out.items i (List.mem_of_getElem? hi)
      have hnm := name_size hin
      obtain ⟨U, hU, hUs, hUb, hUh⟩ := boxed y.val (.cells #[.string i.name, .int .i64 i.place, .int .i64 i.width, .int .i64 i.weight, .int .i64 i.hang, .int .i64 i.front, .int .i64 i.back] 75)
      have hcU := ItemD.boxed (B := U.heap.size) hUh (by omega) (After.refl _ _)
      simp only [After.refl] at hcU
      have s5 : (⟨#[105, 116, 101, 109, 32]⟩ : ByteArray).size = 5 := rfl
      have KI := hide (refLine_lit U (⟨#[105, 116, 101, 109, 32]⟩ ++ i.name) (by rw [ByteArray.size_append, s5]; omega) [i.place, i.width, i.weight, i.hang, i.front, i.back] (midI_of hik) (by simp))
      have hIs := lnB_size (ws := ⟨#[105, 116, 101, 109, 32]⟩ ++ i.name) (midI_of hik)
      rw [ByteArray.size_append, s5] at hIs
      have hIb : bs (lnB (⟨#[105, 116, 101, 109, 32]⟩ ++ i.name) [i.place, i.width, i.weight, i.hang, i.front, i.back]) = lineT (itemLn i) := two_words (a := wItem) (by simp [bs_data, wItem]) _
      obtain ⟨N, hN⟩ : ∃ N, N = lnB (⟨#[105, 116, 101, 109, 32]⟩ ++ i.name) [i.place, i.width, i.weight, i.hang, i.front, i.back] := ⟨_, rfl⟩
      rw [← hN] at KI hIs hIb
      simp only [List.length_cons, List.length_nil] at hIs
      have HNX := hide (show bs (T ++ N) = L0 ++ ((il.take (k + 1)).map itemLn).flatMap lineT by rw [bs_add, hT.out, hIb, map_flat_next itemLn hi, List.append_assoc])
      have HSZ := hide (show (T ++ N).size ≤ 400 + 442 * (k + 1) by rw [ByteArray.size_append]; omega)
      have HU := hide hU
      have HBU := hide (show Below W.heap.size W (U.alloc (.cells #[.int .i64 i.place, .int .i64 i.width, .int .i64 i.weight, .int .i64 i.hang, .int .i64 i.front, .int .i64 i.back] 3 (0, 0))) from (y.below.trans (hUb.mono y.size)).alloc (by have := y.size; omega) _)
      have hNs : N.size ≤ 442 := by omega
      clear hcell hi hU hUs hUb hUh hin hik hN hIb hT hIs
      go_upto_region 6 with fail
      rw [← HU.out]
      go_wp2_with fail
      refine KI.out.mono ?_
      rintro e w5 ⟨rfl, hb5⟩
      have hB5 : Below W.heap.size W w5 := HBU.out.trans (hb5.mono HBU.out.size)
      clear hb5 KI
      go_wp2_with fail
      exact ⟨⟨k + 1, _, rfl, by go_num, by omega, HSZ.out, HNX, ⟨w5, hB5⟩, rfl⟩, by simp [intOf]; omega⟩
    · have hTk : bs T = L0 ++ (il.map itemLn).flatMap lineT := by
        have h := hT.out
        rwa [List.take_of_length_le (by omega)] at h
      obtain ⟨L1, hL1⟩ : ∃ L1, L1 = L0 ++ (il.map itemLn).flatMap lineT := ⟨_, rfl⟩
      have HR1 := hide (show R = L1 ++ (bl.map brickLn).flatMap lineT from HR.out.trans (by rw [hL1]; rfl))
      rw [← hL1] at hTk
      have HTK := hide hTk
      have hTs2 : T.size ≤ 400 + 442 * 40 := by omega
      clear hT hTk hL1 hTs
      go_wp2_with fail
      go_loopw [3, 6] (fun t v wr => ∃ (k : Nat) (T : ByteArray), t = .string T ∧ v = .int .i64 k ∧ k ≤ bl.length ∧ T.size ≤ 18080 + 442 * k ∧ Hid (bs T = L1 ++ ((bl.take k).map brickLn).flatMap lineT) ∧ ∃ y : After W.heap.size W, wr = y.val) (fun _ v _ => bl.length - (intOf v).toNat)
      case atStart => exact ⟨0, T, rfl, rfl, Nat.zero_le _, by omega, hide (by rw [HTK.out]; simp), y, rfl⟩
      case round =>
        obtain ⟨k2, T2, rfl, rfl, hk2, hTs3, hT3, y2, rfl⟩ := hrel
        have hcy2 := hc y2
        by_cases hlt2 : k2 < bl.length
        · obtain ⟨xb, xo, hA, hxb, hcell⟩ := HAT.out.bricks.2.2 (show 0 < bl.length by omega)
          simp only at hA
          subst hA
          obtain ⟨i, hi⟩ : ∃ i, bl[k2]? = some i := ⟨bl[k2], List.getElem?_eq_getElem hlt2⟩
          have he := fun y : After W.heap.size W => And.intro (hc y).2.2.2.2.2.2.2.2.2.2.2.2 (BrickD.elem hi hxb hcell y)
          obtain ⟨hin, hik⟩ := HF.out.bricks i (List.mem_of_getElem? hi)
          have hnm := name_size hin
          have s6 : (⟨#[98, 114, 105, 99, 107, 32]⟩ : ByteArray).size = 6 := rfl
          have KI := hide (fun x : World => fun (hx : SlAt x x.heap.size 1 intCells ⟨some ⟨y2.val.heap.size, 0, none⟩, 2, [i.weight, i.count]⟩) => refLine_any (⟨#[98, 114, 105, 99, 107, 32]⟩ ++ i.name) (by rw [ByteArray.size_append, s6]; omega) ⟨some ⟨y2.val.heap.size, 0, none⟩, 2, [i.weight, i.count]⟩ (midI_of hik) (by simp) x x.heap.size (Nat.le_refl _) hx)
          have hIs := lnB_size (ws := ⟨#[98, 114, 105, 99, 107, 32]⟩ ++ i.name) (midI_of hik)
          rw [ByteArray.size_append, s6] at hIs
          have hIb : bs (lnB (⟨#[98, 114, 105, 99, 107, 32]⟩ ++ i.name) [i.weight, i.count]) = lineT (brickLn i) := two_words (a := wBrick) (by simp [bs_data, wBrick]) _
          obtain ⟨N, hN⟩ : ∃ N, N = lnB (⟨#[98, 114, 105, 99, 107, 32]⟩ ++ i.name) [i.weight, i.count] := ⟨_, rfl⟩
          simp only at KI
          rw [← hN] at KI hIs hIb
          simp only [List.length_cons, List.length_nil] at hIs
          have HNX := hide (show bs (T2 ++ N) = L1 ++ ((bl.take (k2 + 1)).map brickLn).flatMap lineT by rw [bs_add, hT3.out, hIb, map_flat_next brickLn hi, List.append_assoc])
          have HSZ := hide (show (T2 ++ N).size ≤ 18080 + 442 * (k2 + 1) by rw [ByteArray.size_append]; omega)
          have HLS := hide ((lit_sl y2.val [i.weight, i.count] (by simp)).to ((Below.refl _ _).drew) (Nat.le_refl _))
          have HBU := hide (fun o : Obj => (show Below W.heap.size W (y2.val.alloc o).drew from (y2.below.alloc y2.size o).drew))
          have hNs : N.size ≤ 442 := by omega
          clear hcell hi hin hik hN hIb hT3 hIs
          have hnb2 : ¬ 9223372036854775807 < 6 + i.name.size := by omega
          have hnb3 : ¬ 9223372036854775807 < T2.size + N.size := by omega
          go_upto_region 10 with fail
          go_region_held3 (fun w' => w'.cell? ⟨w.heap.size, 0 + 12, none⟩ = some (.slice (some ⟨xb, xo, none⟩) bl.length bc) ∧ w'.cell? ⟨xb, xo + k2 * 3, none⟩ = some (.string i.name) ∧ w'.cell? ⟨xb, xo + k2 * 3 + 1, none⟩ = some (.int .i64 i.weight) ∧ w'.cell? ⟨xb, xo + k2 * 3 + 2, none⟩ = some (.int .i64 i.count))
            (first | exact he y2 | exact he ⟨_, HBU.out _⟩ | exact he ⟨_, y2.below.alloc y2.size _⟩ | exact he ⟨_, hb8⟩)
            (first
              | (go_at_call 61; refine (KI.out _ HLS.out).mono ?_; rintro e w8 ⟨rfl, hb78⟩; have hb8 : Below W.heap.size W w8 := (HBU.out _).trans (hb78.mono (HBU.out _).size)))
          go_wp2_with fail
          exact ⟨⟨k2 + 1, _, rfl, by go_num, by omega, HSZ.out, HNX, ⟨_, by first | exact hb8 | exact hb8.drew⟩, rfl⟩, by simp [intOf]; omega⟩
        · have HTE := hide (show T2 = ⟨R.toArray⟩ by
            apply bs_inj
            rw [hT3.out, bs_of, HR1.out, List.take_of_length_le (by omega)])
          clear hT3
          go_wp2_with fail
          go_ret
          exact Gives.mk (congrArg Value.string HTE.out) (HBD.out y2)
end Go.Proofs.YtnjbfhfjdhfdlaaGreatDoor
namespace Go.Proofs.YtnjbfhfjdhfdlaaGreatDoor
open Go Go.RowKit

theorem Pend.many {T TT : List UInt8} {us ls : List (List Wd)} (h : Pend T (us ++ ls) TT) : T.length + (us.flatMap lineT).length ≤ TT.length ∧ Pend (T ++ us.flatMap lineT) ls TT := by
  unfold Pend at h ⊢
  rw [List.flatMap_append, ← List.append_assoc] at h
  exact ⟨by rw [← h]; simp only [List.length_append]; omega, h⟩
theorem Pend.one {T TT : List UInt8} {a : List Wd} {ls : List (List Wd)} (h : Pend T (a :: ls) TT) : T.length + (lineT a).length ≤ TT.length ∧ Pend (T ++ lineT a) ls TT := by
  have h2 := Pend.many (us := [a]) h
  simpa using h2
def houseT (h : HouseP) : List UInt8 := (houseLn h :: (h.roofs.map roofLn ++ h.sets.flatMap setLns)).flatMap lineT
def sheetT (c : SheetP) : List UInt8 := (c.cues.flatMap cueLns ++ c.apart.map apartLn).flatMap lineT
theorem textP_parts (h : HouseP) (c : SheetP) : textP h c = houseT h ++ sheetT c := by
  unfold textP linesP houseT sheetT
  simp only [List.flatMap_cons, List.flatMap_append, List.append_assoc]
/-- the word of a link -/
def linkS (k : Int) : ByteArray := if k = 1 then wdManual else if k = 2 then wdFollow else wdWith
theorem refLink_any (k : Int) (w : World) : Calls Tryz.prog 63 #[.int .i64 k] w (Gives w (.string (linkS k))) := by
  by_cases h1 : k = 1
  · subst h1
    go_enter Tryz.func63, Tryz.ntmps63
    go_wp2
    go_ret
    exact Gives.mk rfl (Below.refl _ _)
  · by_cases h2 : k = 2
    · subst h2
      go_enter Tryz.func63, Tryz.ntmps63
      go_wp2
      go_ret
      exact Gives.mk rfl (Below.refl _ _)
    · have e : linkS k = wdWith := by unfold linkS; rw [if_neg h1, if_neg h2]
      have b1 : (k == 1) = false := by simpa using h1
      have b2 : (k == 2) = false := by simpa using h2
      rw [e]
      clear e
      go_enter Tryz.func63, Tryz.ntmps63
      go_wp2
      go_ret
      exact Gives.mk rfl (Below.refl _ _)
set_option maxRecDepth 100000 in
set_option maxHeartbeats 8000000 in
theorem refHouseT_any (h : HouseD) (hv : houseOkP h.pl = true) (hL : (houseT h.pl).length ≤ 5000000) (w : World) (B : Nat) (hB : B ≤ w.heap.size) (hat : HouseD.at_ w B h) :
    Calls Tryz.prog 33 #[.agg #[.string h.name, .int .i64 h.height, .slice h.sets.A h.sets.l.length h.sets.cap, .slice h.roofs.A h.roofs.l.length h.roofs.cap]] w (Gives w (.string ⟨(houseT h.pl).toArray⟩)) := by
  obtain ⟨W, hW, hWs, hWb, hWh⟩ := boxed w (.cells #[.string h.name, .int .i64 h.height, .slice h.sets.A h.sets.l.length h.sets.cap, .slice h.roofs.A h.roofs.l.length h.roofs.cap] 25)
  have hc := fun y : After W.heap.size W => HouseD.boxed hWh (by omega) y
  have hbd : ∀ y : After W.heap.size W, Below w.heap.size w y.val := fun y => hWb.trans (y.below.mono (by omega))
  have hatW := hat.to (hWb.mono hB) (show B ≤ W.heap.size by omega)
  have HAT := hide hatW
  have hm1 : h.roofs.cap ≤ 9223372036854775807 := hat.roofs.2.1
  have hm2 : h.roofs.l.length ≤ h.roofs.cap := hat.roofs.1
  have hm3 : h.sets.cap ≤ 9223372036854775807 := hat.sets.2.1
  have hm4 : h.sets.l.length ≤ h.sets.cap := hat.sets.1
  obtain ⟨hf, -, -, hse⟩ := house_fit hv
  have HF := hide hf
  have KS := hide (fun (q : SetD) (hq : q ∈ h.sets.l) (y : After W.heap.size W) => (by
    obtain ⟨f1, f2, f3, f4⟩ := hse (SetD.pl q) (List.mem_map_of_mem hq)
    exact Gives.after (x := y) (Nat.le_refl _) (refSetT_any q f1 f2 f3 f4 y.val W.heap.size y.size ((hatW.each q hq).to y.below (Nat.le_refl _))) : Calls Tryz.prog 62 #[.agg #[.string q.name, .int .i64 q.depth, .int .i64 q.low, .int .i64 q.high, .int .i64 q.length, .slice q.lines.A q.lines.l.length q.lines.cap, .int .i64 q.pipe, .int .i64 q.arbor, .int .i64 q.purchase, .int .i64 q.most, .int .i64 q.brake, .slice q.items.A q.items.l.length q.items.cap, .slice q.bricks.A q.bricks.l.length q.bricks.cap]] y.val fun e w'' => e = .returned (.string ⟨(setT q.pl).toArray⟩) ∧ ∃ z : After W.heap.size W, w'' = z.val))
  have HBD := hide hbd
  have HW := hide hW
  obtain ⟨TT, hTT⟩ : ∃ TT, TT = houseT h.pl := ⟨_, rfl⟩
  rw [← hTT] at hL ⊢
  have hns := name_size hf.name
  have hht := midI_short hf.height
  have s6 : (⟨#[104, 111, 117, 115, 101, 32]⟩ : ByteArray).size = 6 := rfl
  have hp0 : Pend [] (houseLn h.pl :: (h.roofs.l.map roofLn ++ (h.sets.l.map SetD.pl).flatMap setLns)) TT := by
    unfold Pend; rw [hTT]; rfl
  obtain ⟨hp1, hp2⟩ := hp0.one
  have hlb : bs (lnB (⟨#[104, 111, 117, 115, 101, 32]⟩ ++ h.name) [h.height]) = lineT (houseLn h.pl) := two_words (a := wHouse) (by simp [bs_data, wHouse]) _
  have KL := hide (refLine_lit W (⟨#[104, 111, 117, 115, 101, 32]⟩ ++ h.name) (by rw [ByteArray.size_append, s6]; have : h.name.size ≤ 20 := hns; omega) [h.height] (fun n hn => by rw [List.mem_singleton.1 hn]; exact hht) (by simp))
  obtain ⟨N0, hN0⟩ : ∃ N, N = lnB (⟨#[104, 111, 117, 115, 101, 32]⟩ ++ h.name) [h.height] := ⟨_, rfl⟩
  rw [← hN0] at hlb KL
  rw [← hlb, List.nil_append] at hp2
  have HP := hide hp2
  have hns2 : h.name.size ≤ 20 := hns
  have HB1 := hide (show Below W.heap.size W (W.alloc (.cells #[.int .i64 h.height] 3 (0, 0))) from (Below.refl _ _).alloc (Nat.le_refl _) _)
  have HTT := hide hTT
  have hc0 := hc (After.refl _ _)
  simp only [After.refl] at hc0
  clear hW hWh hWb hbd hat hatW hf hse hns hht hp0 hp1 hp2 hlb hN0 hTT hWs
  obtain ⟨hn, hht, ⟨sA, sc, sl⟩, ⟨rA, rc, rl⟩⟩ := h
  simp only at *
  go_enter Tryz.func33, Tryz.ntmps33
  go_upto_region 1 with fail
  rw [← HW.out]
  go_wp2_with fail
  refine KL.out.mono ?_
  rintro e w1 ⟨rfl, hb1⟩
  have hB1 : Below W.heap.size W w1 := HB1.out.trans (hb1.mono HB1.out.size)
  clear hb1 KL
  go_wp2_with fail
  go_loopw [3, 4] (fun t v wr => ∃ (k : Nat) (T : ByteArray), t = .string T ∧ v = .int .i64 k ∧ k ≤ rl.length ∧ Hid (Pend (bs T) ((rl.drop k).map roofLn ++ (sl.map SetD.pl).flatMap setLns) TT) ∧ ∃ y : After W.heap.size W, wr = y.val) (fun _ v _ => rl.length - (intOf v).toNat)
  case atStart => exact ⟨0, _, rfl, rfl, Nat.zero_le _, HP, ⟨w1, hB1⟩, rfl⟩
  case round =>
    obtain ⟨k, T, rfl, rfl, hk, hpe, y, rfl⟩ := hrel
    have hcy := hc y
    by_cases hlt : k < rl.length
    · obtain ⟨xb, xo, hA, hxb, hcell⟩ := HAT.out.roofs.2.2 (show 0 < rl.length by omega)
      simp only at hA
      subst hA
      obtain ⟨i, hi⟩ : ∃ i, rl[k]? = some i := ⟨rl[k], List.getElem?_eq_getElem hlt⟩
      have he := RoofD.elem hi hxb hcell y
      obtain ⟨hin, hik⟩ := HF.out.roofs i (List.mem_of_getElem? hi)
      have hnm := name_size hin
      obtain ⟨U, hU, hUs, hUb, hUh⟩ := boxed y.val (.cells #[.string i.name, .int .i64 i.fro, .int .i64 i.til, .int .i64 i.most] 73)
      have hcU := RoofD.boxed (B := U.heap.size) hUh (by omega) (After.refl _ _)
      simp only [After.refl] at hcU
      have s5 : (⟨#[114, 111, 111, 102, 32]⟩ : ByteArray).size = 5 := rfl
      have KI := hide (refLine_lit U (⟨#[114, 111, 111, 102, 32]⟩ ++ i.name) (by rw [ByteArray.size_append, s5]; omega) [i.fro, i.til, i.most] (midI_of hik) (by simp))
      have hIb : bs (lnB (⟨#[114, 111, 111, 102, 32]⟩ ++ i.name) [i.fro, i.til, i.most]) = lineT (roofLn i) := two_words (a := wRoof) (by simp [bs_data, wRoof]) _
      obtain ⟨N, hN⟩ : ∃ N, N = lnB (⟨#[114, 111, 111, 102, 32]⟩ ++ i.name) [i.fro, i.til, i.most] := ⟨_, rfl⟩
      rw [← hN] at KI hIb
      have hp := hpe.out
      rw [drop_map roofLn hi] at hp
      obtain ⟨hp1, hp2⟩ := hp.one
      rw [← hIb, ← bs_add] at hp2
      rw [← hIb, bs_length, bs_length] at hp1
      have HNX := hide hp2
      have HU := hide hU
      have HBU := hide (show Below W.heap.size W (U.alloc (.cells #[.int .i64 i.fro, .int .i64 i.til, .int .i64 i.most] 3 (0, 0))) from (y.below.trans (hUb.mono y.size)).alloc (by have := y.size; omega) _)
      clear hcell hi hU hUs hUb hUh hin hik hN hIb hp hp2
      go_upto_region 6 with fail
      rw [← HU.out]
      go_wp2_with fail
      refine KI.out.mono ?_
      rintro e w5 ⟨rfl, hb5⟩
      have hB5 : Below W.heap.size W w5 := HBU.out.trans (hb5.mono HBU.out.size)
      clear hb5 KI
      go_wp2_with fail
      exact ⟨⟨k + 1, _, rfl, by go_num, by omega, HNX, ⟨w5, hB5⟩, rfl⟩, by simp [intOf]; omega⟩
    · have hp := hpe.out
      rw [show rl.drop k = [] from List.drop_eq_nil_of_le (by omega), List.map_nil, List.nil_append] at hp
      have HP1 := hide hp
      clear hp hpe
      go_wp2_with fail
      go_loopw [3, 6] (fun t v wr => ∃ (k : Nat) (T : ByteArray), t = .string T ∧ v = .int .i64 k ∧ k ≤ sl.length ∧ Hid (Pend (bs T) (((sl.map SetD.pl).drop k).flatMap setLns ++ []) TT) ∧ ∃ y : After W.heap.size W, wr = y.val) (fun _ v _ => sl.length - (intOf v).toNat)
      case atStart => exact ⟨0, T, rfl, rfl, Nat.zero_le _, hide (by rw [List.append_nil]; exact HP1.out), y, rfl⟩
      case round =>
        obtain ⟨k2, T2, rfl, rfl, hk2, hpe2, y2, rfl⟩ := hrel
        have hcy2 := hc y2
        by_cases hlt2 : k2 < sl.length
        · obtain ⟨xb, xo, hA, hxb, hcell⟩ := HAT.out.sets.2.2 (show 0 < sl.length by omega)
          simp only at hA
          subst hA
          obtain ⟨q, hq⟩ : ∃ q, sl[k2]? = some q := ⟨sl[k2], List.getElem?_eq_getElem hlt2⟩
          have he := SetD.elem hq hxb hcell y2
          have hqm : (sl.map SetD.pl)[k2]? = some (SetD.pl q) := by simp [hq]
          have KQ := hide (KS.out q (List.mem_of_getElem? hq) y2)
          have hp := hpe2.out
          rw [drop_flat setLns hqm] at hp
          obtain ⟨hp1, hp2⟩ := hp.many
          obtain ⟨N, hN⟩ : ∃ N : ByteArray, N = ⟨(setT q.pl).toArray⟩ := ⟨_, rfl⟩
          have hNb : bs N = (setLns q.pl).flatMap lineT := by rw [hN]; exact bs_of _
          rw [← hN] at KQ
          rw [← hNb, ← bs_add] at hp2
          rw [← hNb, bs_length, bs_length] at hp1
          have HNX := hide hp2
          clear hcell hq hqm hp hp2 hN hNb hpe2
          go_wp2_with fail
          refine KQ.out.mono ?_
          rintro e w5 ⟨rfl, y5, rfl⟩
          go_wp2_with fail
          exact ⟨⟨k2 + 1, _, rfl, by go_num, by omega, HNX, y5, rfl⟩, by simp [intOf]; omega⟩
        · have HTE := hide (show T2 = ⟨TT.toArray⟩ by
            apply bs_inj
            have h := hpe2.out
            rw [show (sl.map SetD.pl).drop k2 = [] from List.drop_eq_nil_of_le (by rw [List.length_map]; omega)] at h
            rw [bs_of TT]
            unfold Pend at h
            simpa using h)
          clear hpe2
          go_wp2_with fail
          go_ret
          exact Gives.mk (congrArg Value.string HTE.out) (HBD.out y2)
end Go.Proofs.YtnjbfhfjdhfdlaaGreatDoor
namespace Go.Proofs.YtnjbfhfjdhfdlaaGreatDoor
open Go Go.RowKit

theorem wd_link (q : CueP) (hq : q.fit) : joinW ((.wd wCue :: nameW q.name :: linkW q).map wb) = (wCue ++ [32]) ++ bs q.name ++ [32] ++ bs (linkS q.link) ++ (if q.link = 1 then [] else 32 :: bs q.after) := by
  unfold linkW linkS
  rcases hq.link with ⟨h1, h2⟩ | ⟨h1 | h1, h2⟩
  · rw [if_pos h1, if_pos h1, if_pos h1]
    simp [joinW, wb, nameW, wdManual, wManual, bs_data]
  · rw [if_neg (by omega), if_pos h1, if_neg (by omega), if_pos h1, if_neg (by omega)]
    simp [joinW, wb, nameW, wdFollow, wFollow, bs_data]
  · rw [if_neg (by omega), if_neg (by omega), if_neg (by omega), if_neg (by omega), if_neg (by omega)]
    simp [joinW, wb, nameW, wdWith, wWith, bs_data]
theorem first_below {W : World} (y : After W.heap.size W) {x : World} (h : Below y.val.heap.size y.val x) : Below W.heap.size W x := y.below.trans (h.mono y.size)
theorem first_size {W : World} (y : After W.heap.size W) {x : World} (h : Below y.val.heap.size y.val x) : W.heap.size ≤ x.heap.size := Nat.le_trans y.size h.size
theorem linkS_size (k : Int) : (linkS k).size ≤ 6 := by
  unfold linkS
  by_cases h1 : k = 1
  · rw [if_pos h1]; decide
  · by_cases h2 : k = 2
    · rw [if_neg h1, if_pos h2]; decide
    · rw [if_neg h1, if_neg h2]; decide
set_option maxRecDepth 100000 in
set_option maxHeartbeats 8000000 in
theorem refSheetT_any (s : SheetD) (hv : sheetOkP s.pl = true) (hL : (sheetT s.pl).length ≤ 5000000) (w : World) (B : Nat) (hB : B ≤ w.heap.size) (hat : SheetD.at_ w B s) :
    Calls Tryz.prog 34 #[.agg #[.slice s.cues.A s.cues.l.length s.cues.cap, .slice s.apart.A s.apart.l.length s.apart.cap]] w (Gives w (.string ⟨(sheetT s.pl).toArray⟩)) := by
  obtain ⟨W, hW, hWs, hWb, hWh⟩ := boxed w (.cells #[.slice s.cues.A s.cues.l.length s.cues.cap, .slice s.apart.A s.apart.l.length s.apart.cap] 29)
  have hc := fun y : After W.heap.size W => SheetD.boxed hWh (by omega) y
  have hbd : ∀ y : After W.heap.size W, Below w.heap.size w y.val := fun y => hWb.trans (y.below.mono (by omega))
  have hatW := hat.to (hWb.mono hB) (show B ≤ W.heap.size by omega)
  have HAT := hide hatW
  have hm1 : s.cues.cap ≤ 9223372036854775807 := hat.cues.2.1
  have hm2 : s.cues.l.length ≤ s.cues.cap := hat.cues.1
  have hm3 : s.apart.cap ≤ 9223372036854775807 := hat.apart.2.1
  have hm4 : s.apart.l.length ≤ s.apart.cap := hat.apart.1
  obtain ⟨hf, hn1, hn2, hmv⟩ := sheet_fit hv
  have HF := hide hf
  have HMV := hide hmv
  have HBD := hide hbd
  have HW := hide hW
  obtain ⟨TT, hTT⟩ : ∃ TT, TT = sheetT s.pl := ⟨_, rfl⟩
  rw [← hTT] at hL ⊢
  have hp0 : Pend (bs ⟨#[]⟩) ((s.cues.l.map CueD.pl).flatMap cueLns ++ s.apart.l.map apartLn) TT := by
    unfold Pend; rw [hTT, show bs (⟨#[]⟩ : ByteArray) = [] by simp [bs_data]]; rfl
  have HP := hide hp0
  have hc0 := hc (After.refl _ _)
  simp only [After.refl] at hc0
  clear hW hWh hWb hbd hat hatW hf hmv hp0 hTT hWs
  obtain ⟨⟨cA, cc, cl⟩, ⟨pA, pc, pl⟩⟩ := s
  simp only at *
  go_enter Tryz.func34, Tryz.ntmps34
  go_upto_region 1 with fail
  rw [← HW.out]
  go_wp2_with fail
  go_loopw [3, 4] (fun t v wr => ∃ (k : Nat) (T : ByteArray), t = .string T ∧ v = .int .i64 k ∧ k ≤ cl.length ∧ Hid (Pend (bs T) (((cl.map CueD.pl).drop k).flatMap cueLns ++ pl.map apartLn) TT) ∧ ∃ y : After W.heap.size W, wr = y.val) (fun _ v _ => cl.length - (intOf v).toNat)
  case atStart => exact ⟨0, _, rfl, rfl, Nat.zero_le _, HP, After.refl _ _, rfl⟩
  case round =>
    obtain ⟨k, T, rfl, rfl, hk, hpe, y, rfl⟩ := hrel
    have hcy := hc y
    by_cases hlt : k < cl.length
    · obtain ⟨xb, xo, hA, hxb, hcell⟩ := HAT.out.cues.2.2 (show 0 < cl.length by omega)
      simp only at hA
      subst hA
      obtain ⟨q, hq⟩ : ∃ q, cl[k]? = some q := ⟨cl[k], List.getElem?_eq_getElem hlt⟩
      have hmem := List.mem_of_getElem? hq
      have hqm : (cl.map CueD.pl)[k]? = some (CueD.pl q) := by simp [hq]
      have he := CueD.elem hq hxb hcell y
      have hatq := HAT.out.each q hmem
      have hqf := HF.out.cues (CueD.pl q) (List.mem_map_of_mem hmem)
      have hnm := name_size hqf.name
      have hmq := HMV.out (CueD.pl q) (List.mem_map_of_mem hmem)
      have hp := hpe.out
      rw [drop_flat cueLns hqm] at hp
      obtain ⟨ls2, hls2⟩ : ∃ ls, ls = (((cl.map CueD.pl).drop (k + 1)).flatMap cueLns ++ pl.map apartLn) := ⟨_, rfl⟩
      rw [← hls2, cueLns, List.cons_append] at hp
      have HLS2 := hide hls2
      have HPE := hide hp
      have HQF := hide hqf
      have haf : q.after.size ≤ 20 := by
        rcases hqf.link with ⟨-, h2⟩ | ⟨-, h2⟩
        · rw [show q.after = ⟨#[]⟩ from h2]; decide
        · exact name_size h2
      have hlk : q.link = 1 ∨ ¬ q.link = 1 := by omega
      clear hcell hq hqm hqf hmem hp hls2 hpe
      obtain ⟨cn, ca, ck, cd, ⟨mA, mc, ml⟩, cr, cp⟩ := q
      simp only at *
      have hmc : mc ≤ 9223372036854775807 := hatq.moves.2.1
      have hmlc : ml.length ≤ mc := hatq.moves.1
      have hnm2 : cn.size ≤ 20 := hnm
      have hmq2 : ml.length ≤ 100 := hmq
      clear hnm hmq
      obtain ⟨V, hV, hVs, hVb, hVh⟩ := boxed y.val (.cells #[.string cn, .string ca, .int .i64 ck, .int .i64 cd, .slice mA ml.length mc, .int .i64 cr, .int .i64 cp] 80)
      have hcq := fun z : After V.heap.size V => CueD.boxed (q := ⟨cn, ca, ck, cd, ⟨mA, mc, ml⟩, cr, cp⟩) hVh (by omega) z
      simp only at hcq
      have hcq0 := hcq (After.refl _ _)
      simp only [After.refl] at hcq0
      have hbV : ∀ z : After V.heap.size V, Below W.heap.size W z.val := fun z => y.below.trans ((hVb.mono y.size).trans (z.below.mono (by have := y.size; omega)))
      have hcz := fun z : After V.heap.size V => hc ⟨z.val, hbV z⟩
      simp only at hcz
      have HV := hide hV
      have HBV := hide hbV
      have HATM := hide (hatq.moves.to (hbV (After.refl _ _)) (show W.heap.size ≤ V.heap.size by have := y.size; omega))
      simp only [After.refl] at HATM
      clear hV hVs hVb hVh hbV hatq
      have KK := hide (fun z : After V.heap.size V => Gives.after (x := z) (Nat.le_refl _) (refLink_any ck z.val))
      have hls := linkS_size ck
      have s4 : (⟨#[99, 117, 101, 32]⟩ : ByteArray).size = 4 := rfl
      have s1 : (⟨#[32]⟩ : ByteArray).size = 1 := rfl
      obtain ⟨LS, hLS⟩ : ∃ LS, LS = linkS ck := ⟨_, rfl⟩
      rw [← hLS] at KK hls
      have HLS := hide hLS
      clear hLS
      have hnb1 : ¬ 9223372036854775807 < 4 + cn.size := by omega
      have hnb2 : ¬ 9223372036854775807 < 4 + cn.size + 1 := by omega
      have hnb3 : ¬ 9223372036854775807 < 4 + cn.size + 1 + LS.size := by omega
      go_upto_region 6 with fail
      rw [← HV.out]
      refine wp_region_after (After.refl V.heap.size V) (by kernel_rfl) (by kernel_rfl) ?_
      repeat (go_big_quiet_step ((go_at_call 63; exact KK.out _)))
      refine wpQuiet_nil ?_
      intro z
      have hz2 := hcq z
      go_upto_if 32 with fail
      go_cut [6] (fun a wx => ∃ ws : ByteArray, a = .string ws ∧ ws.size ≤ 100 ∧ Hid (bs ws = joinW ((.wd wCue :: nameW cn :: linkW ⟨cn, ca, ck, cd, ml, cr, cp⟩).map wb)) ∧ ∃ z : After V.heap.size V, wx = z.val)
      case first =>
        have hwl := wd_link ⟨cn, ca, ck, cd, ml, cr, cp⟩ HQF.out
        simp only at hwl
        by_cases h1 : ck = 1
        · have b1 : (ck == 1) = true := by simp [h1]
          have HWB := hide (show bs ((⟨#[99, 117, 101, 32]⟩ ++ cn ++ ⟨#[32]⟩ ++ LS : ByteArray)) = joinW ((.wd wCue :: nameW cn :: linkW ⟨cn, ca, ck, cd, ml, cr, cp⟩).map wb) by
            rw [hwl, if_pos h1, bs_add, bs_add, bs_add, HLS.out]
            simp [bs_data, wCue])
          have HWZ := hide (show ((⟨#[99, 117, 101, 32]⟩ ++ cn ++ ⟨#[32]⟩ ++ LS : ByteArray)).size ≤ 100 by
            rw [ByteArray.size_append, ByteArray.size_append, ByteArray.size_append, s4, s1]; omega)
          clear hwl
          go_wp2_with fail
          go_meet
          exact ⟨_, rfl, HWZ.out, HWB, z, rfl⟩
        · have b1 : (ck == 1) = false := by simpa using h1
          have HWB := hide (show bs ((⟨#[99, 117, 101, 32]⟩ ++ cn ++ ⟨#[32]⟩ ++ LS ++ ⟨#[32]⟩ ++ ca : ByteArray)) = joinW ((.wd wCue :: nameW cn :: linkW ⟨cn, ca, ck, cd, ml, cr, cp⟩).map wb) by
            rw [hwl, if_neg h1, bs_add, bs_add, bs_add, bs_add, bs_add, HLS.out]
            simp [bs_data, wCue])
          have HWZ := hide (show ((⟨#[99, 117, 101, 32]⟩ ++ cn ++ ⟨#[32]⟩ ++ LS ++ ⟨#[32]⟩ ++ ca : ByteArray)).size ≤ 100 by
            rw [ByteArray.size_append, ByteArray.size_append, ByteArray.size_append, ByteArray.size_append, ByteArray.size_append, s4, s1]; omega)
          have hnb4 : ¬ 9223372036854775807 < 4 + cn.size + 1 + LS.size + 1 := by omega
          have hnb5 : ¬ 9223372036854775807 < 4 + cn.size + 1 + LS.size + 1 + ca.size := by omega
          clear hwl
          go_wp2_with fail
          go_meet
          exact ⟨_, rfl, HWZ.out, HWB, z, rfl⟩
      case rest =>
        obtain ⟨ws, rfl, hws, hwb, z3, rfl⟩ := hcut
        have hz3 := hcq z3
        have KI := hide (refLine_lit z3.val ws (by omega) [cd, cr, cp] (midI_of HQF.out.nums) (by simp))
        have hIb : bs (lnB ws [cd, cr, cp]) = lineT (cueLn ⟨cn, ca, ck, cd, ml, cr, cp⟩) := by
          rw [lnB, bs_of, lnL_line (ws := .wd wCue :: nameW cn :: linkW ⟨cn, ca, ck, cd, ml, cr, cp⟩) (by simp) hwb.out]
          rfl
        obtain ⟨N, hN⟩ : ∃ N, N = lnB ws [cd, cr, cp] := ⟨_, rfl⟩
        rw [← hN] at KI hIb
        have hp := HPE.out
        obtain ⟨hp1, hp2⟩ := Pend.one (a := cueLn ⟨cn, ca, ck, cd, ml, cr, cp⟩) hp
        rw [← hIb, ← bs_add] at hp2
        rw [← hIb, bs_length, bs_length] at hp1
        have HNX := hide hp2
        have HB3 := hide (show Below V.heap.size V (z3.val.alloc (.cells #[.int .i64 cd, .int .i64 cr, .int .i64 cp] 3 (0, 0))) from z3.below.alloc z3.size _)
        clear hp hp2 hN hIb hwb HPE KK hls
        go_wp2_with fail
        refine KI.out.mono ?_
        rintro e w5 ⟨rfl, hb5⟩
        have hB5 : Below V.heap.size V w5 := HB3.out.trans (hb5.mono HB3.out.size)
        clear hb5 KI
        have hz5 := hcq ⟨w5, hB5⟩
        simp only at hz5
        go_wp2_with fail
        go_loopw [3, 7] (fun t v wr => ∃ (j : Nat) (T : ByteArray), t = .string T ∧ v = .int .i64 j ∧ j ≤ ml.length ∧ Hid (Pend (bs T) ((ml.drop j).map moveLn ++ ls2) TT) ∧ ∃ u : After V.heap.size V, wr = u.val) (fun _ v _ => ml.length - (intOf v).toNat)
        case atStart => exact ⟨0, _, rfl, rfl, Nat.zero_le _, HNX, ⟨w5, hB5⟩, rfl⟩
        case round =>
          obtain ⟨j, T4, rfl, rfl, hj, hpe4, u, rfl⟩ := hrel
          have hzu := hcq u
          by_cases hjl : j < ml.length
          · obtain ⟨xb, xo, hA, hxb, hcell⟩ := HATM.out.2.2 (show 0 < ml.length by omega)
            simp only at hA
            subst hA
            obtain ⟨i, hi⟩ : ∃ i, ml[j]? = some i := ⟨ml[j], List.getElem?_eq_getElem hjl⟩
            have he4 := MoveD.elem hi hxb hcell u
            obtain ⟨hin, hik⟩ := HQF.out.moves i (List.mem_of_getElem? hi)
            have hnm := name_size hin
            obtain ⟨U, hU, hUs, hUb, hUh⟩ := boxed u.val (.cells #[.string i.set, .int .i64 i.to, .int .i64 i.speed, .int .i64 i.rise, .int .i64 i.fall] 82)
            have hcU := MoveD.boxed (B := U.heap.size) hUh (by omega) (After.refl _ _)
            simp only [After.refl] at hcU
            have s5 : (⟨#[109, 111, 118, 101, 32]⟩ : ByteArray).size = 5 := rfl
            have KI := hide (refLine_lit U (⟨#[109, 111, 118, 101, 32]⟩ ++ i.set) (by rw [ByteArray.size_append, s5]; omega) [i.to, i.speed, i.rise, i.fall] (midI_of hik) (by simp))
            have hIb : bs (lnB (⟨#[109, 111, 118, 101, 32]⟩ ++ i.set) [i.to, i.speed, i.rise, i.fall]) = lineT (moveLn i) := two_words (a := wMove) (by simp [bs_data, wMove]) _
            obtain ⟨N2, hN⟩ : ∃ N, N = lnB (⟨#[109, 111, 118, 101, 32]⟩ ++ i.set) [i.to, i.speed, i.rise, i.fall] := ⟨_, rfl⟩
            rw [← hN] at KI hIb
            have hp := hpe4.out
            rw [drop_map moveLn hi] at hp
            obtain ⟨hp3, hp4⟩ := hp.one
            rw [← hIb, ← bs_add] at hp4
            rw [← hIb, bs_length, bs_length] at hp3
            have HNX := hide hp4
            have HU := hide hU
            have HBU := hide (show Below V.heap.size V (U.alloc (.cells #[.int .i64 i.to, .int .i64 i.speed, .int .i64 i.rise, .int .i64 i.fall] 3 (0, 0))) from (u.below.trans (hUb.mono u.size)).alloc (by have := u.size; omega) _)
            clear hcell hi hU hUs hUb hUh hin hik hN hIb hp hp4 hpe4
            go_upto_region 14 with fail
            rw [← HU.out]
            go_wp2_with fail
            refine KI.out.mono ?_
            rintro e w6 ⟨rfl, hb6⟩
            have hB6 : Below V.heap.size V w6 := HBU.out.trans (hb6.mono HBU.out.size)
            clear hb6 KI
            go_wp2_with fail
            exact ⟨⟨j + 1, _, rfl, by go_num, by omega, HNX, ⟨w6, hB6⟩, rfl⟩, by simp [intOf]; omega⟩
          · have hp := hpe4.out
            rw [show ml.drop j = [] from List.drop_eq_nil_of_le (by omega), List.map_nil, List.nil_append, HLS2.out] at hp
            have HPN := hide hp
            clear hp hpe4
            go_wp2_with fail
            exact ⟨⟨k + 1, _, rfl, by go_num, by omega, HPN, ⟨u.val, HBV.out u⟩, rfl⟩, by simp [intOf]; omega⟩
    · have hp := hpe.out
      rw [show (cl.map CueD.pl).drop k = [] from List.drop_eq_nil_of_le (by rw [List.length_map]; omega), List.flatMap_nil, List.nil_append] at hp
      have HP1 := hide hp
      clear hp hpe
      go_wp2_with fail
      go_loopw [3, 9] (fun t v wr => ∃ (k : Nat) (T : ByteArray), t = .string T ∧ v = .int .i64 k ∧ k ≤ pl.length ∧ Hid (Pend (bs T) ((pl.drop k).map apartLn ++ []) TT) ∧ ∃ y : After W.heap.size W, wr = y.val) (fun _ v _ => pl.length - (intOf v).toNat)
      case atStart => exact ⟨0, T, rfl, rfl, Nat.zero_le _, hide (by rw [List.append_nil]; exact HP1.out), y, rfl⟩
      case round =>
        obtain ⟨k2, T2, rfl, rfl, hk2, hpe2, y2, rfl⟩ := hrel
        have hcy2 := hc y2
        by_cases hlt2 : k2 < pl.length
        · obtain ⟨xb, xo, hA, hxb, hcell⟩ := HAT.out.apart.2.2 (show 0 < pl.length by omega)
          simp only at hA
          subst hA
          obtain ⟨⟨p1, p2⟩, hi⟩ : ∃ i, pl[k2]? = some i := ⟨pl[k2], List.getElem?_eq_getElem hlt2⟩
          have he := fun y : After W.heap.size W => And.intro (hc y).2 (pairElem hi hxb hcell y)
          simp only at he
          obtain ⟨hi1, hi2⟩ := HF.out.apart _ (List.mem_of_getElem? hi)
          have hn1' := name_size hi1
          have hn2' := name_size hi2
          simp only at hn1' hn2'
          have s6 : (⟨#[97, 112, 97, 114, 116, 32]⟩ : ByteArray).size = 6 := rfl
          have s1 : (⟨#[32]⟩ : ByteArray).size = 1 := rfl
          have hws : (⟨#[97, 112, 97, 114, 116, 32]⟩ ++ p1 ++ ⟨#[32]⟩ ++ p2 : ByteArray).size ≤ 1000 := by
            rw [ByteArray.size_append, ByteArray.size_append, ByteArray.size_append, s6, s1]; omega
          have KA := hide (fun z : World => refLine_any (⟨#[97, 112, 97, 114, 116, 32]⟩ ++ p1 ++ ⟨#[32]⟩ ++ p2) hws ⟨none, 0, []⟩ (fun n hn => by cases hn) (by simp) z z.heap.size (Nat.le_refl _) slAt_nil)
          simp only [List.length_nil] at KA
          have hIb : bs (lnB (⟨#[97, 112, 97, 114, 116, 32]⟩ ++ p1 ++ ⟨#[32]⟩ ++ p2) []) = lineT (apartLn (p1, p2)) := by
            rw [lnB, bs_of, lnL_line (ws := apartLn (p1, p2)) (by simp [apartLn]) (by rw [bs_add, bs_add, bs_add]; simp [apartLn, joinW, wb, nameW, bs_data, wApart])]
            simp [nums]
          obtain ⟨N, hN⟩ : ∃ N, N = lnB (⟨#[97, 112, 97, 114, 116, 32]⟩ ++ p1 ++ ⟨#[32]⟩ ++ p2) [] := ⟨_, rfl⟩
          rw [← hN] at KA hIb
          have hp := hpe2.out
          rw [drop_map apartLn hi] at hp
          obtain ⟨hp1, hp2⟩ := hp.one
          rw [← hIb, ← bs_add] at hp2
          rw [← hIb, bs_length, bs_length] at hp1
          have HNX := hide hp2
          have hnb1 : ¬ 9223372036854775807 < 6 + p1.size := by omega
          have hnb2 : ¬ 9223372036854775807 < 6 + p1.size + 1 := by omega
          have hnb3 : ¬ 9223372036854775807 < 6 + p1.size + 1 + p2.size := by omega
          have hnb4 : ¬ 9223372036854775807 < T2.size + N.size := by omega
          have hk0 : (0 : Int) ≤ (k2 : Int) := by omega
          have hk1 : (k2 : Int) < (pl.length : Int) := by omega
          clear hcell hi hi1 hi2 hN hIb hp hp2 hpe2 hws
          go_upto_region 18 with fail
          go_region_held3 (fun w' => w'.cell? ⟨w.heap.size, 1, none⟩ = some (.slice (some ⟨xb, xo, none⟩) pl.length pc) ∧ w'.cell? ⟨xb, xo + k2 * 2, none⟩ = some (.string p1) ∧ w'.cell? ⟨xb, xo + k2 * 2 + 1, none⟩ = some (.string p2))
            (first | exact he y2 | exact he ⟨_, y2.below.drew⟩ | exact he ⟨_, hb8⟩)
            (first
              | (go_at_call 61; refine (KA.out _).mono ?_; rintro e w8 ⟨rfl, hb78⟩; have hb8 : Below W.heap.size W w8 := (first_below y2 (by first | exact Below.refl _ _ | exact (Below.refl _ _).drew)).trans (hb78.mono (first_size y2 (by first | exact Below.refl _ _ | exact (Below.refl _ _).drew)))))
          go_wp2_with fail
          exact ⟨⟨k2 + 1, _, rfl, by go_num, by omega, HNX, ⟨_, by first | exact hb8 | exact hb8.drew⟩, rfl⟩, by simp [intOf]; omega⟩
        · have HTE := hide (show T2 = ⟨TT.toArray⟩ by
            apply bs_inj
            have h := hpe2.out
            rw [show pl.drop k2 = [] from List.drop_eq_nil_of_le (by omega)] at h
            rw [bs_of TT]
            unfold Pend at h
            simpa using h)
          clear hpe2
          go_wp2_with fail
          go_ret
          exact Gives.mk (congrArg Value.string HTE.out) (HBD.out y2)
end Go.Proofs.YtnjbfhfjdhfdlaaGreatDoor
