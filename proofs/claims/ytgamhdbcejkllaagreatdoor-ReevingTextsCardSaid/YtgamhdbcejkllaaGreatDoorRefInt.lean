/- loftblockref10.Words: the words of a line. The reference's fractions as texts: loftblockref02.decimal, Text. The reference's reading of fractions and of integers, by the digits: in plain Lean. loftblockref10.Int and loftblockref02.number: the numbers that words are. -/
import Derived.Test.YtgamhdbcejkllaaGreatDoorParseSys
import Derived.Test.YtgamhdbcejkllaaGreatDoorReeveNum
import Derived.Test.YtgamhdbcejkllaaGreatDoorDecimal
import Derived.Lib.SlBytesRow
import Derived.Deep.DeepCutAuto
import Derived.Test.YtgamhdbcejkllaaGreatDoorReeveAtoi
namespace Go.Proofs.YtgamhdbcejkllaaGreatDoor
open Go.RowKit

theorem bs_nil : bs (⟨#[]⟩ : ByteArray) = [] := toList_nil rfl
theorem bs_app (a b : ByteArray) : bs (a ++ b) = bs a ++ bs b := by rw [bs_data, bs_data, bs_data, ByteArray.data_append]; simp
theorem bs_extract (s : ByteArray) (a b : Nat) : bs (s.extract a b) = ((bs s).drop a).take (b - a) := by
  rw [bs_data, bs_data, ByteArray.data_extract, Array.toList_extract]
theorem bs_one (s : ByteArray) (i : Nat) {c : UInt8} (h : (bs s)[i]? = some c) : bs (s.extract i (i + 1)) = [c] := by
  obtain ⟨hi, e⟩ := List.getElem?_eq_some_iff.1 h
  rw [bs_extract, List.drop_eq_getElem_cons hi, show i + 1 - i = 1 by omega, e]
  rfl
/-- how far the words have been read: those before, and the one begun -/
def WordsAt (s : ByteArray) (l : List ByteArray) (wd : ByteArray) (i : Nat) : Prop := ∃ h t, partsOf 32 ((bs s).drop i) = h :: t ∧ partsOf 32 (bs s) = l.map bs ++ (bs wd ++ h) :: t
theorem WordsAt.start (s : ByteArray) : WordsAt s [] ⟨#[]⟩ 0 := by
  obtain ⟨h, t, e⟩ := partsOf_ne 32 (bs s)
  exact ⟨h, t, e, by rw [e, bs_nil]; rfl⟩
theorem WordsAt.cut {s : ByteArray} {l : List ByteArray} {wd : ByteArray} {i : Nat} (H : WordsAt s l wd i) (hc : (bs s)[i]? = some 32) : WordsAt s (l ++ [wd]) ⟨#[]⟩ (i + 1) := by
  obtain ⟨h, t, h1, h2⟩ := H
  obtain ⟨hi, e⟩ := List.getElem?_eq_some_iff.1 hc
  obtain ⟨h', t', e'⟩ := partsOf_ne 32 ((bs s).drop (i + 1))
  rw [List.drop_eq_getElem_cons hi, e, partsOf, if_pos rfl] at h1
  injection h1 with h1 h3
  refine ⟨h', t', e', ?_⟩
  rw [h2, ← h1, ← h3, e']
  simp [bs_nil]
theorem WordsAt.more {s : ByteArray} {l : List ByteArray} {wd : ByteArray} {i : Nat} {c : UInt8} (H : WordsAt s l wd i) (hc : (bs s)[i]? = some c) (hn : c ≠ 32) : WordsAt s l (wd ++ s.extract i (i + 1)) (i + 1) := by
  obtain ⟨h, t, h1, h2⟩ := H
  obtain ⟨hi, e⟩ := List.getElem?_eq_some_iff.1 hc
  obtain ⟨h', t', e'⟩ := partsOf_ne 32 ((bs s).drop (i + 1))
  rw [List.drop_eq_getElem_cons hi, e, partsOf, if_neg hn, e'] at h1
  injection h1 with h1 h3
  refine ⟨h', t', e', ?_⟩
  rw [h2, ← h1, ← h3, bs_app, bs_one s i hc]
  simp
theorem WordsAt.done {s : ByteArray} {l : List ByteArray} {wd : ByteArray} (H : WordsAt s l wd s.size) : (l ++ [wd]).map bs = partsOf 32 (bs s) := by
  obtain ⟨h, t, h1, h2⟩ := H
  rw [List.drop_of_length_le (by rw [bs_length]; exact Nat.le_refl _), partsOf] at h1
  injection h1 with h1 h3
  rw [h2, ← h1, ← h3]
  simp
theorem strCells_one (l : List ByteArray) : ∀ u ∈ l.flatMap strCells, u.oneCell' = true := fun u hu => by
  obtain ⟨c, _, h⟩ := List.mem_flatMap.1 hu
  simp [strCells] at h
  subst h; rfl
theorem own_bare {w : World} {g : Nat} {e : TypeId} {size : Nat} (h : w.heap[g]? = some (.cells #[] e (0, 0))) : w.ownsRow g e size (.slice (some ⟨g, 0, none⟩) 0 0) 0 [] :=
  ⟨by simp, Or.inr ⟨g, 0, #[], rfl, Nat.le_refl _, h, Nat.le_refl _, by simp [maxLen], by simp, by simp⟩⟩
/-- a row of strings that is being made -/
structure StrSt (W : World) (v : Value) (l : List ByteArray) (x : World) : Prop where
  own : x.ownsRow W.heap.size 9 1 v l.length (l.flatMap strCells)
  bel : Below W.heap.size W x
theorem StrSt.append {W x u y : World} {v v' : Value} {l : List ByteArray} {b : ByteArray} (h : StrSt W v l x) (hu : Below x.heap.size x u) (hown : y.ownsRow W.heap.size 9 1 v' (l.length + 1) (l.flatMap strCells ++ [.string b])) (hgr : u.grownBy y v.ownBlock) : StrSt W v' (l ++ [b]) y := by
  refine ⟨by rw [List.length_append, List.flatMap_append]; exact hown, h.bel.trans ?_⟩
  exact Below.grown (hu.mono h.bel.size) hgr (Nat.le_trans h.bel.size hu.size) (own_owner h.own)
set_option maxRecDepth 100000 in
set_option maxHeartbeats 4000000 in
theorem refWords_any (s : ByteArray) (hs : s.size ≤ 1000000) (w : World) : Calls Tryz.prog 41 #[.string s] w fun e w' =>
    ∃ (LB : List ByteArray) (A : Option Addr) (cap : Nat), LB.map bs = partsOf 32 (bs s) ∧ e = .returned (.slice A LB.length cap) ∧ cap ≤ maxLen ∧ SlAt w' w'.heap.size 1 strCells ⟨A, cap, LB⟩ ∧ Below w.heap.size w w' := by
  obtain ⟨i2, hi2, hy0, hy1, hy2⟩ := info_parts infoStr
  have HI := hide (And.intro hi2 (And.intro hy0 (And.intro hy1 hy2)))
  obtain ⟨W, hW, hWs, hWb, hWh⟩ := boxed w (.cells #[] 9)
  have H0 := hide (show StrSt w (.slice (some ⟨w.heap.size, 0, none⟩) 0 0) [] W from ⟨own_bare hWh, hWb⟩)
  have HW := hide hW
  have HBY := hide (fun k (h : k < s.size) => bs_get s k h)
  clear hi2 hy0 hy1 hy2 hW hWb hWh
  go_enter Tryz.func41, Tryz.ntmps41
  go_wp2_with fail
  rw [← HW.out]
  go_loopw [3, 4, 5] (fun v t z wr => ∃ (L : List ByteArray) (wd : ByteArray) (i : Nat), t = .string wd ∧ z = .int .i64 i ∧ i ≤ s.size ∧ L.length ≤ i ∧ wd.size ≤ i ∧ Hid (WordsAt s L wd i) ∧ Hid (StrSt w v L wr)) (fun _ _ z _ => s.size - (intOf z).toNat)
  case atStart => exact ⟨[], ⟨#[]⟩, 0, rfl, rfl, Nat.zero_le _, Nat.le_refl _, Nat.zero_le _, hide (WordsAt.start s), H0⟩
  case round =>
    obtain ⟨L, wd, i, rfl, rfl, hi, hL, hwd, HSP, HST⟩ := hrel
    by_cases hlt : i < s.size
    · have hx := HBY.out i hlt
      have hi0 : (0 : Int) ≤ (i : Int) := by omega
      have hi1 : (i : Int) < (s.size : Int) := by omega
      by_cases h32 : s[i] = 32
      · have HN := hide (HSP.out.cut (h32 ▸ hx))
        have hq : ((s[i].toNat : Int) == 32) = true := by rw [h32]; rfl
        clear h32 hx
        go_wp2_with (at_builtin; refine wpList_append_own _ rfl _ _ 83 rfl w.heap.size 9 i2 (.string ⟨#[]⟩) 1 16 Tryz.underlying83 HI.out.1 HI.out.2.1 HI.out.2.2.1 HI.out.2.2.2 rfl (by decide) _ _ _ rfl (HST.out.own.alloc _) ⟨wr.heap.size, 0, none⟩ 1 1 [.string wd] rfl rfl (World.news_of_block (cs := #[.string wd]) (t := 9) (fr := (0, 0)) (heap_alloc_new wr _)) (fun u hu => strCells_one [wd] u (by simpa [strCells] using hu)) (by unfold maxLen; omega) (by omega) (by have := HST.out.bel.size; simp; omega) ?_)
        intro v6 w6 hown6 hgr6 _
        have HN6 := hide (StrSt.append HST.out ((Below.refl _ _).alloc (Nat.le_refl _) _) hown6 hgr6)
        clear hown6 hgr6
        go_wp2
        exact ⟨⟨L ++ [wd], ⟨#[]⟩, i + 1, by go_num, by go_num, by omega, by rw [List.length_append, List.length_singleton]; omega, Nat.zero_le _, HN, HN6⟩, by simp [intOf]; omega⟩
      · have HN := hide (HSP.out.more hx h32)
        have hq : ((s[i].toNat : Int) == 32) = false := by
          rw [beq_eq_false_iff_ne]
          intro e
          exact h32 (UInt8.toNat_inj.1 (by have : s[i].toNat = 32 := by omega
                                           rw [this]; rfl))
        have hz := bs_one s i hx
        have hzs : (s.extract i (i + 1)).size = 1 := by rw [← bs_length, hz]; rfl
        obtain ⟨C, hC⟩ : ∃ C, C = s.extract i (i + 1) := ⟨_, rfl⟩
        have HC := hide hC
        rw [← hC] at HN hzs
        have hsum : (wd ++ C).size ≤ i + 1 := by rw [ByteArray.size_append]; omega
        clear h32 hx hz hC
        go_wp2
        exact ⟨⟨L, wd ++ C, i + 1, by rw [HC.out], by go_num, by omega, by omega, hsum, HN, HST⟩, by simp [intOf]; omega⟩
    · obtain rfl : i = s.size := by omega
      have HN := hide HSP.out.done
      go_wp2_with (at_builtin; refine wpList_append_own _ rfl _ _ 83 rfl w.heap.size 9 i2 (.string ⟨#[]⟩) 1 16 Tryz.underlying83 HI.out.1 HI.out.2.1 HI.out.2.2.1 HI.out.2.2.2 rfl (by decide) _ _ _ rfl (HST.out.own.alloc _) ⟨wr.heap.size, 0, none⟩ 1 1 [.string wd] rfl rfl (World.news_of_block (cs := #[.string wd]) (t := 9) (fr := (0, 0)) (heap_alloc_new wr _)) (fun u hu => strCells_one [wd] u (by simpa [strCells] using hu)) (by unfold maxLen; omega) (by omega) (by have := HST.out.bel.size; simp; omega) ?_)
      intro v6 w6 hown6 hgr6 _
      have HN6 := hide (StrSt.append HST.out ((Below.refl _ _).alloc (Nat.le_refl _) _) hown6 hgr6)
      obtain ⟨A, cap, hv, hc1, hc2, _⟩ := own_slice hown6
      subst hv
      have HCP := hide hc2
      clear hown6 hgr6 hc1 hc2
      go_wp2
      go_ret
      refine ⟨L ++ [wd], A, cap, HN.out, by rw [List.length_append]; rfl, HCP.out, ?_, HN6.out.bel⟩
      have h6 := HN6.out.own
      rw [show (L ++ [wd]).length = L.length + 1 by rw [List.length_append]; rfl] at h6
      exact own_slAt (cells := strCells) (fun _ => rfl) (by rw [List.length_append]; exact h6)
end Go.Proofs.YtgamhdbcejkllaaGreatDoor
namespace Go.Proofs.YtgamhdbcejkllaaGreatDoor
open Go.RowKit

def natB (n : Nat) : ByteArray := ⟨(Lib.decDigits n).toArray⟩
theorem natB_size {n : Nat} (h : n < 18446744073709551616) : (natB n).size ≤ 20 := by
  have := Lib.nDigits_le20 n h
  rw [← Lib.decDigits_length] at this
  simpa [natB, ByteArray.size] using this
theorem natB_small {k : Nat} (h : k < 10) : natB k = ⟨#[UInt8.ofNat (48 + k)]⟩ := by rw [natB, Lib.decDigits, dif_pos h]
theorem natB_big {q k : Nat} (h : k < 10) (hq : 0 < q) : natB (10 * q + k) = natB q ++ ⟨#[UInt8.ofNat (48 + k)]⟩ := by
  have e : Lib.decDigits (10 * q + k) = Lib.decDigits q ++ [UInt8.ofNat (48 + k)] := by
    conv => lhs; rw [Lib.decDigits]
    rw [dif_neg (by omega), show (10 * q + k) / 10 = q by omega, show (10 * q + k) % 10 = k by omega]
  rw [natB, e, array_append]; rfl
theorem app_nil (x : ByteArray) : x ++ ⟨#[]⟩ = x := by apply ByteArray.ext; rw [ByteArray.data_append]; simp
theorem conv_digit (x : World) {r : Nat} (h : r < 10) : (convert 66 9 (.slice (some ⟨x.heap.size, 0, none⟩) 1 1)).run Tryz.prog (x.alloc (.cells #[.int .u8 (48 + (r : Int))] 5)) = .ok (.string ⟨#[UInt8.ofNat (48 + r)]⟩) (x.alloc (.cells #[.int .u8 (48 + (r : Int))] 5)) :=
  Lib.run_convert_whole (P := Tryz.prog) _ 66 5 9 Tryz.underlying66 Tryz.underlying5 Tryz.underlying9 x.heap.size 0 ⟨#[UInt8.ofNat (48 + r)]⟩ (fun i hi => by
    obtain rfl : i = 0 := by have : (⟨#[UInt8.ofNat (48 + r)]⟩ : ByteArray).size = 1 := rfl; omega
    rw [Lib.cell_of_heap (heap_alloc_new x _)]
    show some (Value.int .u8 (48 + (r : Int))) = some (Value.int .u8 ((UInt8.ofNat (48 + r)).toNat : Int))
    rw [show (UInt8.ofNat (48 + r)).toNat = 48 + r by simp; omega]
    congr 2) 1
set_option maxRecDepth 100000 in
set_option maxHeartbeats 4000000 in
theorem refDec_any (m : Nat) (hm : m < 18446744073709551616) (w : World) : Calls Tryz.prog 51 #[.int .u64 m] w (Gives w (.string (natB m))) := by
  have hms := natB_size hm
  obtain ⟨R, hR⟩ : ∃ R, R = natB m := ⟨_, rfl⟩
  rw [← hR] at hms ⊢
  have HS := hide (show R = natB m ++ ⟨#[]⟩ by rw [hR, app_nil])
  clear hR
  go_enter Tryz.func51, Tryz.ntmps51
  go_wp2
  go_loopw [0, 3] (fun a s wr => ∃ (k : Nat) (T : ByteArray), a = .int .u64 k ∧ s = .string T ∧ k < 18446744073709551616 ∧ Hid (R = natB k ++ T) ∧ ∃ x : After w.heap.size w, wr = x.val) (fun a _ _ => (intOf a).toNat)
  case atStart => exact ⟨m, _, rfl, rfl, hm, HS, After.refl _ _, rfl⟩
  case round =>
    obtain ⟨k, T, rfl, rfl, hk, hT, x, rfl⟩ := hrel
    have hTs : T.size ≤ 20 := by
      have := congrArg ByteArray.size hT.out
      rw [ByteArray.size_append] at this
      omega
    by_cases h9 : 9 < k
    · obtain ⟨q, r, hr, rfl⟩ : ∃ q r : Nat, r < 10 ∧ k = 10 * q + r := ⟨k / 10, k % 10, by omega, by omega⟩
      have hq0 : 0 < q := by omega
      have e1 : ((10 * q + r : Nat) : Int).tmod 10 = (r : Int) := by rw [Int.tmod_eq_emod_of_nonneg (by omega)]; omega
      have e2 : ((10 * q + r : Nat) : Int).tdiv 10 = (q : Int) := by rw [Int.tdiv_eq_ediv_of_nonneg (by omega)]; omega
      have hgt : (9 : Int) < ((10 * q + r : Nat) : Int) := by omega
      obtain ⟨N, hN⟩ : ∃ N : Int, N = ((10 * q + r : Nat) : Int) := ⟨_, rfl⟩
      have hNq : (q : Int) < ((10 * q + r : Nat) : Int) := by omega
      rw [← hN] at e1 e2 hgt hNq ⊢
      have hr3 : (0 : Int) ≤ (r : Int) := by omega
      have hr4 : (r : Int) < 10 := by omega
      have hcv := conv_digit x.val hr
      have hq2 : q < 18446744073709551616 := by omega
      have HN := hide (show R = natB q ++ (⟨#[UInt8.ofNat (48 + r)]⟩ ++ T) by rw [hT.out, natB_big hr hq0, ByteArray.append_assoc])
      have hbel := x.below.alloc x.size (.cells #[.int .u8 (48 + (r : Int))] 5)
      have HBEL := hide hbel
      have h1 : (⟨#[UInt8.ofNat (48 + r)]⟩ : ByteArray).size = 1 := rfl
      obtain ⟨C, hC⟩ : ∃ C : ByteArray, C = ⟨#[UInt8.ofNat (48 + r)]⟩ := ⟨_, rfl⟩
      rw [← hC] at hcv h1 HN
      clear hr hT hbel hC hN
      go_wp2
      exact ⟨⟨q, C ++ T, rfl, rfl, hq2, HN, ⟨_, HBEL.out⟩, rfl⟩, by simp [intOf]; omega⟩
    · have hkt : (k : Int) < 10 := by omega
      have hk0 : (0 : Int) ≤ (k : Int) := by omega
      have hk10 : k < 10 := by omega
      have hcv := conv_digit x.val hk10
      have HBEL := hide (x.below.alloc x.size (.cells #[.int .u8 (48 + (k : Int))] 5))
      have h1 : (⟨#[UInt8.ofNat (48 + k)]⟩ : ByteArray).size = 1 := rfl
      have HN := hide (show R = ⟨#[UInt8.ofNat (48 + k)]⟩ ++ T by rw [hT.out, natB_small hk10])
      obtain ⟨C, hC⟩ : ∃ C : ByteArray, C = ⟨#[UInt8.ofNat (48 + k)]⟩ := ⟨_, rfl⟩
      rw [← hC] at hcv h1 HN
      clear hC hT
      go_wp2
      go_ret
      exact Gives.mk (by rw [HN.out]; rfl) HBEL.out
theorem fracT_parts (n d : Int) : fracT n d = (if n < 0 then ⟨#[45]⟩ ++ natB n.natAbs else natB n.natAbs) ++ (if d = 1 then ⟨#[]⟩ else ⟨#[47]⟩ ++ itoaB d) := by
  have h1 : itoaB n = if n < 0 then ⟨#[45]⟩ ++ natB n.natAbs else natB n.natAbs := by
    rw [itoaB, natB]
    split
    · rename_i h
      rw [itoa_of_neg h]
      exact array_append [45] _
    · rename_i h
      obtain ⟨m, rfl⟩ : ∃ m : Nat, n = m := ⟨n.toNat, by omega⟩
      rw [itoa_of_nat]; rfl
  rw [fracT, ← h1]
  split
  · rw [app_nil]
  · rw [ByteArray.append_assoc]
theorem itoaB_pos {d : Int} (h : 0 ≤ d) : itoaB d = natB d.natAbs := by
  obtain ⟨m, rfl⟩ : ∃ m : Nat, d = m := ⟨d.toNat, by omega⟩
  rw [itoaB, itoa_of_nat]; rfl
set_option maxRecDepth 100000 in
set_option maxHeartbeats 4000000 in
theorem refFracText_any (n d : Int) (hn : I64 n) (hd : I64 d) (hd0 : 0 ≤ d) (w : World) : Calls Tryz.prog 30 #[.agg #[.int .i64 n, .int .i64 d]] w (Gives w (.string (fracT n d))) := by
  obtain ⟨W, hW, hWs, hWb, hWh⟩ := boxed w (.cells #[.int .i64 n, .int .i64 d] 55)
  have hc := fun y : After W.heap.size W => two_cells ((y.below.block _ (by omega)).trans hWh)
  have HBD : Hid (∀ y : After W.heap.size W, Below w.heap.size w y.val) := hide fun y => hWb.trans (y.below.mono (by omega))
  have hsn := natB_size (n := n.natAbs) (by unfold I64 at hn; omega)
  have hsd := natB_size (n := d.natAbs) (by unfold I64 at hd; omega)
  have KS := hide fun (m : Int) (hm : I64 m) (y : After W.heap.size W) => Gives.after (x := y) (Nat.le_refl _) (refSize02_any m hm y.val)
  have KD := hide fun (m : Nat) (hm : m < 18446744073709551616) (y : After W.heap.size W) => Gives.after (x := y) (Nat.le_refl _) (refDec_any m hm y.val)
  have YR : W = (After.refl W.heap.size W).val := rfl
  have HW := hide hW
  have hF := fracT_parts n d
  have HIN := hide hn
  have HID := hide hd
  have hnb : n.natAbs < 18446744073709551616 := by unfold I64 at hn; omega
  have hdb : d.natAbs < 18446744073709551616 := by unfold I64 at hd; omega
  clear hW hWs hWh hWb hn hd
  obtain ⟨a, ha⟩ : ∃ a, a = n.natAbs := ⟨_, rfl⟩
  obtain ⟨e, he⟩ : ∃ e, e = d.natAbs := ⟨_, rfl⟩
  rw [itoaB_pos hd0] at hF
  rw [← ha, ← he] at hF
  rw [← ha] at hsn hnb
  rw [← he] at hsd hdb
  have HA := hide ha
  have HE := hide he
  clear ha he
  have KSn := hide fun (y : After W.heap.size W) => KS.out n HIN.out y
  have KSd := hide fun (y : After W.heap.size W) => KS.out d HID.out y
  rw [← HA.out] at KSn
  rw [← HE.out] at KSd
  have KDa := hide fun (y : After W.heap.size W) => KD.out a hnb y
  have KDe := hide fun (y : After W.heap.size W) => KD.out e hdb y
  have h45 : (⟨#[45]⟩ : ByteArray).size = 1 := rfl
  have h47 : (⟨#[47]⟩ : ByteArray).size = 1 := rfl
  obtain ⟨R, hR⟩ : ∃ R, R = fracT n d := ⟨_, rfl⟩
  rw [← hR] at hF ⊢
  have HR := hide hF
  clear KS KD hF hR
  by_cases hd1 : d = 1
  · by_cases hn0 : n < 0
    · have HQ := hide (show R = ⟨#[45]⟩ ++ natB a by rw [HR.out, if_pos hd1, if_pos hn0, app_nil])
      subst hd1
      go_enter Tryz.func30, Tryz.ntmps30
      go_wp2_with (first
        | (go_at_call 52; rw [← HW.out, YR]; refine (KSn.out _).mono ?_; rintro e1 w1 ⟨rfl, y, rfl⟩; have hcy := hc y)
        | (go_at_call 51; refine (KDa.out y).mono ?_; rintro e2 w2 ⟨rfl, z, rfl⟩; have hcz := hc z))
      go_ret
      exact Gives.mk (by rw [HQ.out]; rfl) (HBD.out z)
    · have HQ := hide (show R = natB a by rw [HR.out, if_pos hd1, if_neg hn0, app_nil])
      subst hd1
      go_enter Tryz.func30, Tryz.ntmps30
      go_wp2_with (first
        | (go_at_call 52; rw [← HW.out, YR]; refine (KSn.out _).mono ?_; rintro e1 w1 ⟨rfl, y, rfl⟩; have hcy := hc y)
        | (go_at_call 51; refine (KDa.out y).mono ?_; rintro e2 w2 ⟨rfl, z, rfl⟩; have hcz := hc z))
      go_ret
      exact Gives.mk (by rw [HQ.out]; rfl) (HBD.out z)
  · have hd2 : (d == 1) = false := by simpa using hd1
    by_cases hn0 : n < 0
    · have HQ := hide (show R = ⟨#[45]⟩ ++ natB a ++ ⟨#[47]⟩ ++ natB e by rw [HR.out, if_neg hd1, if_pos hn0]; simp only [ByteArray.append_assoc])
      go_enter Tryz.func30, Tryz.ntmps30
      go_upto_region 5 with (first
        | (go_at_call 52; rw [← HW.out, YR]; refine (KSn.out _).mono ?_; rintro e1 w1 ⟨rfl, y, rfl⟩; have hcy := hc y)
        | (go_at_call 51; refine (KDa.out y).mono ?_; rintro e2 w2 ⟨rfl, z, rfl⟩; have hcz := hc z))
      go_wp2_with (first
        | (go_at_call 52; refine (KSd.out z).mono ?_; rintro e1 w1 ⟨rfl, y3, rfl⟩; have hcy3 := hc y3)
        | (go_at_call 51; refine (KDe.out y3).mono ?_; rintro e2 w2 ⟨rfl, z2, rfl⟩; have hcz2 := hc z2))
      go_ret
      exact Gives.mk (by rw [HQ.out]; rfl) (HBD.out z2)
    · have HQ := hide (show R = natB a ++ ⟨#[47]⟩ ++ natB e by rw [HR.out, if_neg hd1, if_neg hn0]; simp only [ByteArray.append_assoc])
      go_enter Tryz.func30, Tryz.ntmps30
      go_upto_region 5 with (first
        | (go_at_call 52; rw [← HW.out, YR]; refine (KSn.out _).mono ?_; rintro e1 w1 ⟨rfl, y, rfl⟩; have hcy := hc y)
        | (go_at_call 51; refine (KDa.out y).mono ?_; rintro e2 w2 ⟨rfl, z, rfl⟩; have hcz := hc z))
      go_wp2_with (first
        | (go_at_call 52; refine (KSd.out z).mono ?_; rintro e1 w1 ⟨rfl, y3, rfl⟩; have hcy3 := hc y3)
        | (go_at_call 51; refine (KDe.out y3).mono ?_; rintro e2 w2 ⟨rfl, z2, rfl⟩; have hcz2 := hc z2))
      go_ret
      exact Gives.mk (by rw [HQ.out]; rfl) (HBD.out z2)
end Go.Proofs.YtgamhdbcejkllaaGreatDoor
namespace Go.Proofs.YtgamhdbcejkllaaGreatDoor
open Go Go.Lib

/-- digits whose number is small: what the reference's 'number' lets by -/
def natOk (a : List UInt8) : Bool := decide (0 < a.length) && decide (a.length ≤ 19) && a.all isDig && decide (valN 0 a ≤ 1152921504606846976)
theorem natOk_dec {m : Nat} (h : m ≤ 1152921504606846976) : natOk (decDigits m) = true := by
  have h1 := nDigits_pos m
  have h2 := nDigits_le m 18 (by omega)
  simp only [natOk, Bool.and_eq_true, decide_eq_true_eq, valN_dec, decDigits_length]
  exact ⟨⟨⟨h1, h2⟩, decDigits_all m⟩, h⟩
def sgn (neg : Bool) (v : Nat) : Int := if neg then -(v : Int) else (v : Int)
def sgT (neg : Bool) : List UInt8 := if neg then [45] else []
theorem sgT_clean (neg : Bool) (k : UInt8) (h : k ≠ 45) : ∀ c ∈ sgT neg, c ≠ k := fun c hc e => by
  subst e
  cases neg
  · cases hc
  · rw [sgT, if_pos rfl, List.mem_singleton] at hc; exact h hc
/-- a numeral with its sign apart -/
theorem itoa_sign {n : Int} {neg : Bool} {a : List UInt8} (h : itoa n = sgT neg ++ a) (hn : neg = false → a.head? ≠ some 45) : a = decDigits n.natAbs ∧ sgn neg n.natAbs = n := by
  by_cases h0 : n < 0
  · rw [itoa_of_neg h0] at h
    cases neg
    · rw [sgT, if_neg (by simp), List.nil_append] at h
      exact absurd (by rw [← h]; rfl) (hn rfl)
    · rw [sgT, if_pos rfl, List.singleton_append] at h
      injection h with _ h
      exact ⟨h.symm, by rw [sgn, if_pos rfl]; omega⟩
  · obtain ⟨m, rfl⟩ : ∃ m : Nat, n = m := ⟨n.toNat, by omega⟩
    rw [itoa_of_nat] at h
    cases neg
    · rw [sgT, if_neg (by simp), List.nil_append] at h
      exact ⟨by rw [← h]; rfl, by rw [sgn, if_neg (by simp)]; omega⟩
    · rw [sgT, if_pos rfl, List.singleton_append] at h
      exact absurd (by rw [h]; rfl) (decDigits_head m)
abbrev FracBound (ok : Int → Int → Bool) : Prop := ∀ n d, ok n d = true → (-1152921504606846976 ≤ n ∧ n ≤ 1152921504606846976) ∧ 1 ≤ d ∧ d ≤ 1152921504606846976
theorem fracE_ref_cut {ok : Int → Int → Bool} (hok : FracBound ok) {neg : Bool} {a b : List UInt8} (ha : ∀ c ∈ a, c ≠ 47) (hn : neg = false → a.head? ≠ some 45) :
    fracE ok (sgT neg ++ (a ++ 47 :: b)) = if (natOk a = true ∧ natOk b = true) ∧ ok (sgn neg (valN 0 a)) (valN 0 b : Nat) = true ∧ fracL (sgn neg (valN 0 a)) (valN 0 b : Nat) = sgT neg ++ (a ++ 47 :: b) then some (sgn neg (valN 0 a), ((valN 0 b : Nat) : Int)) else none := by
  split
  · rename_i hx
    rw [← hx.2.2]
    exact fracE_text hx.2.1
  · rename_i hx
    refine fracE_none fun n d h1 h2 => hx ?_
    obtain ⟨h3, h4⟩ := hok n d h1
    by_cases hd : d = 1
    · subst hd
      exact absurd rfl ((frac_whole (n := n)).2 47 (by rw [h2]; simp))
    · have h5 := h2
      rw [(frac_parts hd).1, ← List.append_assoc] at h5
      have h7 := congrArg (partsOf 47) h5
      have hc : ∀ c ∈ sgT neg ++ a, c ≠ 47 := fun c hc => (List.mem_append.1 hc).elim (sgT_clean neg 47 (by decide) c) (ha c)
      rw [partsOf_cut _ _ (frac_parts hd).2, partsOf_cut _ _ hc] at h7
      injection h7 with h8 _
      rw [h8] at h5
      have h9 := List.append_cancel_left h5
      injection h9 with _ h9
      obtain ⟨m, rfl⟩ : ∃ m : Nat, d = m := ⟨d.toNat, by omega⟩
      rw [itoa_of_nat] at h9
      obtain ⟨h10, h11⟩ := itoa_sign h8 hn
      have e1 : valN 0 b = m := by rw [← h9, valN_dec]
      have e2 : sgn neg (valN 0 a) = n := by rw [h10, valN_dec, h11]
      rw [e1, e2]
      exact ⟨⟨by rw [h10]; exact natOk_dec (by omega), by rw [← h9]; exact natOk_dec (by omega)⟩, h1, h2⟩
theorem fracE_ref_whole {ok : Int → Int → Bool} (hok : FracBound ok) {neg : Bool} {a : List UInt8} (ha : ∀ c ∈ a, c ≠ 47) (hn : neg = false → a.head? ≠ some 45) :
    fracE ok (sgT neg ++ a) = if natOk a = true ∧ ok (sgn neg (valN 0 a)) 1 = true ∧ fracL (sgn neg (valN 0 a)) 1 = sgT neg ++ a then some (sgn neg (valN 0 a), 1) else none := by
  split
  · rename_i hx
    rw [← hx.2.2]
    exact fracE_text hx.2.1
  · rename_i hx
    refine fracE_none fun n d h1 h2 => hx ?_
    obtain ⟨h3, h4⟩ := hok n d h1
    have hc : ∀ c ∈ sgT neg ++ a, c ≠ 47 := fun c hc => (List.mem_append.1 hc).elim (sgT_clean neg 47 (by decide) c) (ha c)
    by_cases hd : d = 1
    · subst hd
      have h5 := h2
      rw [frac_whole.1] at h5
      obtain ⟨h10, h11⟩ := itoa_sign h5 hn
      have e2 : sgn neg (valN 0 a) = n := by rw [h10, valN_dec, h11]
      rw [e2]
      exact ⟨by rw [h10]; exact natOk_dec (by omega), h1, h2⟩
    · rw [(frac_parts hd).1] at h2
      exact absurd rfl (hc 47 (by rw [← h2]; simp))
/-- what the reference's Int answers: digits behind a sign, and the same text -/
theorem numE_ref {neg : Bool} {a : List UInt8} (hn : neg = false → a.head? ≠ some 45) :
    numE (sgT neg ++ a) = if (0 < a.length ∧ (sgT neg ++ a).length ≤ 10 ∧ a.all isDig = true) ∧ itoa (sgn neg (valN 0 a)) = sgT neg ++ a then some (sgn neg (valN 0 a)) else none := by
  split
  · rename_i hx
    exact numE_iff.2 ⟨hx.2, hx.1.2.1⟩
  · rename_i hx
    refine numE_none fun n h1 hl => hx ?_
    obtain ⟨h10, h11⟩ := itoa_sign h1 hn
    have e2 : sgn neg (valN 0 a) = n := by rw [h10, valN_dec, h11]
    rw [e2]
    have hp := nDigits_pos n.natAbs
    exact ⟨⟨by rw [h10, decDigits_length]; exact hp, hl, by rw [h10]; exact decDigits_all _⟩, h1⟩
/-- every word has its sign apart -/
theorem sign_apart (w : List UInt8) : ∃ neg a, w = sgT neg ++ a ∧ (neg = false → a.head? ≠ some 45) ∧ (neg = true ↔ w.head? = some 45) := by
  by_cases h : w.head? = some 45
  · cases w with
    | nil => cases h
    | cons c t =>
      injection h with h
      subst h
      exact ⟨true, t, rfl, by simp, by simp⟩
  · exact ⟨false, w, rfl, fun _ => h, by simp [h]⟩
end Go.Proofs.YtgamhdbcejkllaaGreatDoor
namespace Go.Proofs.YtgamhdbcejkllaaGreatDoor
open Go.RowKit

/-- the digits before place k of a word whose digits begin at place d -/
structure DigAt (a : List UInt8) (k n : Nat) : Prop where
  all : (a.take k).all isDig = true
  val : n = valN 0 (a.take k)
theorem DigAt.start (a : List UInt8) : DigAt a 0 0 := ⟨rfl, rfl⟩
theorem DigAt.next {a : List UInt8} {k n : Nat} {c : UInt8} (h : DigAt a k n) (hc : a[k]? = some c) (hd : isDig c = true) : DigAt a (k + 1) (10 * n + (c.toNat - 48)) := by
  obtain ⟨hk, e⟩ := List.getElem?_eq_some_iff.1 hc
  have e1 : a.take (k + 1) = a.take k ++ [c] := by rw [List.take_succ_eq_append_getElem hk, e]
  refine ⟨by rw [e1, List.all_append, h.all]; simp [hd], ?_⟩
  rw [e1, valN_append, ← h.val, valN_cons, valN_nil]
theorem DigAt.lt {a : List UInt8} {k n : Nat} (h : DigAt a k n) : n < 10 ^ k := by
  have h1 := valN_lt _ h.all
  rw [← h.val] at h1
  exact Nat.lt_of_lt_of_le h1 (Nat.pow_le_pow_right (by omega) (by rw [List.length_take]; omega))
theorem DigAt.done {a : List UInt8} {n : Nat} (h : DigAt a a.length n) : a.all isDig = true ∧ n = valN 0 a := by
  have h1 := h.all
  have h2 := h.val
  rw [List.take_length] at h1 h2
  exact ⟨h1, h2⟩
theorem not_all {a : List UInt8} {k : Nat} {c : UInt8} (hc : a[k]? = some c) (hd : isDig c = false) : a.all isDig = false := by
  rw [List.all_eq_false]
  exact ⟨c, List.mem_of_getElem? hc, by simp [hd]⟩
theorem isDig_iff {c : UInt8} : isDig c = true ↔ 48 ≤ (c.toNat : Int) ∧ (c.toNat : Int) ≤ 57 := by simp [isDig, digitB]
theorem sgT_length (neg : Bool) : (sgT neg).length = if neg then 1 else 0 := by cases neg <;> rfl
set_option maxRecDepth 100000 in
set_option maxHeartbeats 4000000 in
theorem refInt_any (s : ByteArray) (hs : s.size ≤ 1000000) (w : World) : Calls Tryz.prog 62 #[.string s] w (NumR w s) := by
  obtain ⟨neg, a, hw, hn, hiff⟩ := sign_apart (bs s)
  have hnum := numE_ref (a := a) hn
  rw [← hw] at hnum
  have hlen : s.size = (if neg then 1 else 0) + a.length := by
    rw [← bs_length, hw, List.length_append, sgT_length]
  obtain ⟨d, hd⟩ : ∃ d : Nat, d = if neg then 1 else 0 := ⟨_, rfl⟩
  rw [← hd] at hlen
  have hget : ∀ k, d ≤ k → (bs s)[k]? = a[k - d]? := fun k hk => by
    rw [hw, List.getElem?_append_right (by rw [sgT_length, ← hd]; exact hk), sgT_length, ← hd]
  have HNUM := hide hnum
  have HGET := hide hget
  have HBY := hide (fun k (h : k < s.size) => bs_get s k h)
  have HL := bs_length s
  have HLL := hide HL
  have none_ : ¬ ((0 < a.length ∧ (bs s).length ≤ 10 ∧ a.all isDig = true) ∧ Lib.itoa (sgn neg (valN 0 a)) = bs s) → numE (bs s) = none := fun h => by rw [HNUM.out, if_neg h]
  have HNO := hide none_
  clear hnum hget none_ HL
  rcases Nat.eq_zero_or_pos s.size with h0 | h0
  · have HF := hide (show numE (bs s) = none from HNO.out fun h => by omega)
    have h00 : ¬ (0 : Int) < (s.size : Int) := by omega
    have h01 : ((0 : Int) == (s.size : Int)) = true := by rw [h0]; rfl
    clear h0 hlen hw hn hiff hd
    go_enter Tryz.func62, Tryz.ntmps62
    go_wp2_with fail
    go_ret2
    exact ⟨0, false, rfl, Below.refl _ _, HF.out⟩
  · have hb0 := HBY.out 0 h0
    have hi1 : (0 : Int) < (s.size : Int) := by omega
    have hq : ((s[0].toNat : Int) == 45) = neg := by
      have hh : (bs s).head? = some s[0] := by rw [List.head?_eq_getElem?]; exact hb0
      rw [hh] at hiff
      cases neg
      · rw [beq_eq_false_iff_ne]
        intro e
        have : s[0] = 45 := UInt8.toNat_inj.1 (by have : s[0].toNat = 45 := by omega
                                                  rw [this]; rfl)
        exact absurd (hiff.2 (by rw [this])) (by simp)
      · have := hiff.1 rfl
        injection this with this
        rw [this]; rfl
    have hdn : d = 0 ∧ neg = false ∨ d = 1 ∧ neg = true := by cases neg <;> simp [hd]
    have HDN := hide hdn
    have hd1 : d ≤ 1 := by omega
    clear hb0 hiff hw hn hd hdn
    go_enter Tryz.func62, Tryz.ntmps62
    go_upto_if 14 with fail
    go_cut [5] (fun x wx => x = .int .i64 d ∧ wx = w)
    case first =>
      rcases HDN.out with ⟨rfl, rfl⟩ | ⟨rfl, rfl⟩
      · go_wp2_with fail
        go_meet
        exact ⟨rfl, rfl⟩
      · go_wp2_with fail
        go_meet
        exact ⟨rfl, rfl⟩
    case rest =>
    obtain ⟨rfl, rfl⟩ := hcut
    have HLN := hide hlen
    clear hq hlen
    by_cases h1 : (d : Int) = (s.size : Int)
    · have HF := hide (show numE (bs s) = none from HNO.out fun h => by have := HLN.out; omega)
      have h11 : ((d : Int) == (s.size : Int)) = true := by simpa using h1
      clear h1
      go_wp2_with fail
      go_ret2
      exact ⟨0, false, rfl, Below.refl _ _, HF.out⟩
    by_cases h2 : (10 : Int) < (s.size : Int)
    · have HF := hide (show numE (bs s) = none from HNO.out fun h => by have := HLL.out; omega)
      have h11 : ((d : Int) == (s.size : Int)) = false := by simpa using h1
      clear h1
      go_wp2_with fail
      go_ret2
      exact ⟨0, false, rfl, Below.refl _ _, HF.out⟩
    have h11 : ((d : Int) == (s.size : Int)) = false := by simpa using h1
    have h1n : d < s.size := by have := HLN.out; omega
    clear h1
    go_wp2_with fail
    go_loopw [4, 6] (fun x y wr => ∃ (n k q : Nat), x = .int .i64 n ∧ y = .int .i64 q ∧ k ≤ a.length ∧ Hid (q = d + k) ∧ Hid (DigAt a k n) ∧ wr = wc) (fun _ y _ => s.size - (intOf y).toNat)
    case atStart => exact ⟨0, 0, d, rfl, rfl, Nat.zero_le _, hide rfl, hide (DigAt.start a), rfl⟩
    case round =>
      obtain ⟨n, k, q, rfl, rfl, hk, hq, hda, rfl⟩ := hrel
      by_cases hlt : k < a.length
      · have hks : q < s.size := by have := HLN.out; have := hq.out; omega
        have hx := HBY.out q hks
        rw [HGET.out _ (by have := hq.out; omega), show q - d = k by have := hq.out; omega] at hx
        have hn10 := hda.out.lt
        have hk9 : k ≤ 10 := by have := HLN.out; omega
        have hn9 : n < 10000000000 := Nat.lt_of_lt_of_le hn10 (Nat.pow_le_pow_right (by omega) hk9)
        have hi0 : (0 : Int) ≤ (q : Int) := by omega
        have hi1 : (q : Int) < (s.size : Int) := by omega
        obtain ⟨c, hc⟩ : ∃ c, c = s[q] := ⟨_, rfl⟩
        have hcb := byte_lt c
        by_cases hdg : isDig c = true
        · have hdg2 := isDig_iff.1 hdg
          have HN := hide (hda.out.next (c := c) (by rw [hc]; exact hx) hdg)
          have hg1 := hdg2.1
          have hg2 := hdg2.2
          have hg0 : 48 ≤ c.toNat := by omega
          have hnn : 10 * n + (c.toNat - 48) < 200000000000 := by omega
          rw [hc] at hg1 hg2 hcb
          have HC := hide hc
          clear hx hn10 hdg hdg2 hc
          go_wp2_with fail
          exact ⟨⟨10 * n + (c.toNat - 48), k + 1, q + 1, by rw [HC.out]; rw [HC.out] at hg0; congr 1; omega, by go_num, by omega, hide (by have := hq.out; omega), HN, trivial⟩, by simp [intOf]; omega⟩
        · have hdg0 : isDig c = false := by simpa using hdg
          have HF := hide (show numE (bs s) = none from HNO.out fun h => by
            have := not_all (c := c) (by rw [hc]; exact hx) hdg0
            rw [this] at h
            exact absurd h.1.2.2 (by simp))
          have hdg2 : ¬ (48 ≤ (s[q].toNat : Int) ∧ (s[q].toNat : Int) ≤ 57) := fun h => hdg (isDig_iff.2 (by rw [hc]; exact h))
          rw [hc] at hcb
          clear hx hn10 hdg hdg0 hc
          by_cases hg : (s[q].toNat : Int) < 48
          · clear hdg2
            go_wp2_with fail
            go_ret2
            exact ⟨0, false, rfl, Below.refl _ _, HF.out⟩
          · have hg1 : (57 : Int) < (s[q].toNat : Int) := by omega
            clear hdg2
            go_wp2_with fail
            go_ret2
            exact ⟨0, false, rfl, Below.refl _ _, HF.out⟩
      · obtain rfl : k = a.length := by omega
        have hdone := hda.out.done
        have hn10 := hda.out.lt
        have hal : a.length ≤ 10 := by have := HLN.out; omega
        have hn9 : n < 100000000000 := Nat.lt_of_lt_of_le hn10 (Nat.le_trans (Nat.pow_le_pow_right (by omega) hal) (by decide))
        have hks : ¬ (q : Int) < (s.size : Int) := by have := HLN.out; have := hq.out; omega
        have hdq : ((d : Int) == 1) = neg := by rcases HDN.out with ⟨rfl, rfl⟩ | ⟨rfl, rfl⟩ <;> rfl
        obtain ⟨m, hm⟩ : ∃ m : Int, m = sgn neg n := ⟨_, rfl⟩
        have hmI : I64 m := by rw [hm]; unfold I64 sgn; split <;> omega
        have HM := hide hm
        have HD := hide hdone
        have KD := hide (Gives.first (refDecimal_any m hmI wr))
        have hms := numB_size m hmI
        have HAL := hide hal
        clear hdone hn10 hm
        go_upto_if 50 with fail
        go_cut [4] (fun x wx => x = .int .i64 m ∧ wx = wr)
        case first =>
          cases neg
          · go_wp2_with fail
            go_meet
            exact ⟨by rw [HM.out]; rfl, rfl⟩
          · go_wp2_with fail
            go_meet
            exact ⟨by rw [HM.out]; simp [sgn], rfl⟩
        case rest =>
        obtain ⟨rfl, rfl⟩ := hcut
        go_wp2_with (go_at_call 29; refine KD.out.mono ?_; rintro e1 w1 ⟨rfl, y, rfl⟩)
        go_ret2
        refine ⟨m, _, rfl, y.below, ?_⟩
        have hb : bs (numB m) = Lib.itoa m := bs_mk _
        rw [HNUM.out, ← HD.out.2, ← HM.out]
        have hlen := HLN.out
        have hl2 := HLL.out
        by_cases hq : ((numB m).toList == s.toList) = true
        · rw [if_pos hq, if_pos ⟨⟨by omega, by omega, HD.out.1⟩, by rw [← hb]; exact bs_eq.1 hq⟩]
        · rw [if_neg hq, if_neg fun h => hq (bs_eq.2 (by rw [hb]; exact h.2))]
theorem and_low63 (n : Nat) (h : n < 18446744073709551616) : ∃ r : Nat, bits BinOp.and IntKind.u64 (n : Int) 9223372036854775807 = (r : Int) ∧ r < 9223372036854775808 ∧ (n < 9223372036854775808 → r = n) := by
  refine ⟨n % 2 ^ 63, ?_, Nat.mod_lt _ (by decide), fun h => Nat.mod_eq_of_lt h⟩
  have h1 := bits_and_u64_nat n 9223372036854775807 h (by decide)
  rw [show (9223372036854775807 : Nat) = 2 ^ 63 - 1 from rfl, Nat.and_two_pow_sub_one_eq_mod] at h1
  exact h1
set_option maxRecDepth 100000 in
set_option maxHeartbeats 4000000 in
theorem refNat_any (s : ByteArray) (hs : s.size ≤ 1000000) (w : World) : Calls Tryz.prog 82 #[.string s] w fun e w' =>
    ∃ v : Int, e = .returned (.tuple #[.int .i64 v, .bool (natOk (bs s))]) ∧ (0 ≤ v ∧ v ≤ 9223372036854775807) ∧ (natOk (bs s) = true → v = valN 0 (bs s)) ∧ Below w.heap.size w w' := by
  have HBY := hide (fun k (h : k < s.size) => bs_get s k h)
  have HLL := hide (bs_length s)
  have HZ : Hid ((0 : Int) ≤ 0 ∧ (0 : Int) ≤ 9223372036854775807) := hide ⟨by omega, by omega⟩
  by_cases h1 : (s.size : Int) < 1
  · have HF := hide (show natOk (bs s) = false by simp [natOk]; have := HLL.out; omega)
    go_enter Tryz.func82, Tryz.ntmps82
    go_wp2_with fail
    go_ret2
    exact ⟨0, by rw [HF.out]; rfl, HZ.out, fun h => absurd (HF.out.symm.trans h) (by simp), Below.refl _ _⟩
  by_cases h2 : (19 : Int) < (s.size : Int)
  · have HF := hide (show natOk (bs s) = false by simp [natOk]; have := HLL.out; omega)
    go_enter Tryz.func82, Tryz.ntmps82
    go_wp2_with fail
    go_ret2
    exact ⟨0, by rw [HF.out]; rfl, HZ.out, fun h => absurd (HF.out.symm.trans h) (by simp), Below.refl _ _⟩
  have hs19 : s.size ≤ 19 := by omega
  go_enter Tryz.func82, Tryz.ntmps82
  go_wp2_with fail
  go_loopw [4, 5] (fun x y wr => ∃ (n k : Nat), x = .int .u64 n ∧ y = .int .i64 k ∧ k ≤ s.size ∧ Hid (DigAt (bs s) k n) ∧ wr = w) (fun _ y _ => s.size - (intOf y).toNat)
  case atStart => exact ⟨0, 0, rfl, rfl, Nat.zero_le _, hide (DigAt.start _), rfl⟩
  case round =>
    obtain ⟨n, k, rfl, rfl, hk, hda, rfl⟩ := hrel
    by_cases hlt : k < s.size
    · have hx := HBY.out k hlt
      have hn10 := hda.out.lt
      have hk9 : k ≤ 18 := by omega
      have hn9 : n < 1000000000000000000 := Nat.lt_of_lt_of_le hn10 (Nat.pow_le_pow_right (by omega) hk9)
      have hi0 : (0 : Int) ≤ (k : Int) := by omega
      have hi1 : (k : Int) < (s.size : Int) := by omega
      obtain ⟨c, hc⟩ : ∃ c, c = s[k] := ⟨_, rfl⟩
      have hcb := byte_lt c
      by_cases hdg : isDig c = true
      · have hdg2 := isDig_iff.1 hdg
        have HN := hide (hda.out.next (c := c) (by rw [hc]; exact hx) hdg)
        have hg1 := hdg2.1
        have hg2 := hdg2.2
        have hg0 : 48 ≤ c.toNat := by omega
        rw [hc] at hg1 hg2 hcb
        have HC := hide hc
        clear hx hn10 hdg hdg2 hc
        go_wp2_with fail
        exact ⟨⟨10 * n + (c.toNat - 48), k + 1, by rw [HC.out]; rw [HC.out] at hg0; congr 1; omega, by go_num, by omega, HN, trivial⟩, by simp [intOf]; omega⟩
      · have hdg0 : isDig c = false := by simpa using hdg
        have HF := hide (show natOk (bs s) = false by
          have := not_all (c := c) (by rw [hc]; exact hx) hdg0
          simp [natOk, this])
        have hdg2 : ¬ (48 ≤ (s[k].toNat : Int) ∧ (s[k].toNat : Int) ≤ 57) := fun h => hdg (isDig_iff.2 (by rw [hc]; exact h))
        rw [hc] at hcb
        clear hx hn10 hdg hdg0 hc
        by_cases hg : (s[k].toNat : Int) < 48
        · clear hdg2
          go_wp2_with fail
          go_ret2
          exact ⟨0, by rw [HF.out]; rfl, HZ.out, fun h => absurd (HF.out.symm.trans h) (by simp), Below.refl _ _⟩
        · have hg1 : (57 : Int) < (s[k].toNat : Int) := by omega
          clear hdg2
          go_wp2_with fail
          go_ret2
          exact ⟨0, by rw [HF.out]; rfl, HZ.out, fun h => absurd (HF.out.symm.trans h) (by simp), Below.refl _ _⟩
    · obtain rfl : k = s.size := by omega
      have hda2 := hda.out
      rw [← HLL.out] at hda2
      have hdone := hda2.done
      have hn10 := hda.out.lt
      have hn9 : n < 10000000000000000000 := Nat.lt_of_lt_of_le hn10 (Nat.pow_le_pow_right (by omega) hs19)
      have HD := hide hdone
      have hok : natOk (bs s) = decide ((n : Int) ≤ 1152921504606846976) := by
        have h3 := HLL.out
        rw [Bool.eq_iff_iff]
        simp only [natOk, Bool.and_eq_true, decide_eq_true_eq, ← HD.out.2]
        constructor
        · rintro ⟨_, h⟩; omega
        · intro h; exact ⟨⟨⟨by omega, by omega⟩, HD.out.1⟩, by omega⟩
      have HOK := hide hok
      obtain ⟨r, hr1, hr2, hr3⟩ := and_low63 n (by omega)
      have hr0 : (0 : Int) ≤ (r : Int) := by omega
      have HR3 := hide hr3
      clear hda2 hdone hn10 hok hr3
      go_wp2_with fail
      go_ret2
      refine ⟨r, by rw [HOK.out]; rfl, ⟨by omega, by omega⟩, fun h => ?_, Below.refl _ _⟩
      rw [HOK.out, decide_eq_true_eq] at h
      rw [HR3.out (by omega), ← HD.out.2]
end Go.Proofs.YtgamhdbcejkllaaGreatDoor
