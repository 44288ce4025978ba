/- The reference's decimal text of a number that is not negative (loftblockref33.number), and loftblockref33.Legend: the reference's legend of a right house. -/
import Derived.Test.YtliehhnnfpkciaaGreatDoorLegend
import Derived.Test.YtliehhnnfpkciaaGreatDoorDigits
import Derived.Laws.BytesString
import Derived.Laws.IdiomStrings
import Derived.Test.YtliehhnnfpkciaaGreatDoorLegendW
import Derived.Test.YtliehhnnfpkciaaGreatDoorRefOrder
import Derived.Test.YtliehhnnfpkciaaGreatDoorQuietTail
import Derived.RegionTactic
import Derived.ChangeAlike
import Derived.BigRegion
namespace Go.Proofs.YtliehhnnfpkciaaGreatDoor
open Go.RowKit

/-- the text of one byte, made out of a slice of one byte -/
theorem run_byte_string (w : World) (n : Int) (h : 0 ≤ n) (h2 : n ≤ 255) :
    (convert 54 9 (.slice (some ⟨w.heap.size, 0, none⟩) 1 1)).run Tryz.prog (w.alloc (.cells #[.int .u8 n] 5)) = .ok (.string ⟨#[UInt8.ofNat n.toNat]⟩) (w.alloc (.cells #[.int .u8 n] 5)) := by
  refine run_convert_bytes_back (P := Tryz.prog) (w.alloc (.cells #[.int .u8 n] 5)) 54 9 5 ⟨w.heap.size, 0, none⟩ 1 [UInt8.ofNat n.toNat] Tryz.underlying54 Tryz.underlying5 Tryz.underlying9 ?_
  intro j hj
  have : j = 0 := by simpa using hj
  subst this
  have e : ((UInt8.ofNat n.toNat).toNat : Int) = n := by
    have := UInt8.toNat_ofNat_of_lt' (n := n.toNat) (show n.toNat < UInt8.size by simp only [UInt8.size]; omega)
    rw [this]; omega
  have := World.cell?_alloc_mark w #[.int .u8 n] 5 (0, 0) 0
  simp only [List.getElem_cons_zero, e]
  exact this

/-- how far the reference's loop is: j digits are laid, v is what is left -/
def DigitsTo (u least j v : Nat) (s : ByteArray) : Prop := v = u / 10 ^ j ∧ s = ⟨(lowDigits u j).toArray⟩ ∧ j ≤ max least (Lib.nDigits u)
theorem DigitsTo.start (u least : Nat) : DigitsTo u least 0 u ⟨#[]⟩ := ⟨by simp, by simp [lowDigits], Nat.zero_le _⟩
theorem DigitsTo.size {u least j v : Nat} {s : ByteArray} (h : DigitsTo u least j v s) : s.size = j := by
  rw [h.2.1]; show (lowDigits u j).toArray.size = j; simp [lowDigits_length]
theorem DigitsTo.next {u least j v : Nat} {s : ByteArray} (h : DigitsTo u least j v s) (hg : 0 < v ∨ j < least) : DigitsTo u least (j + 1) (v / 10) (⟨#[UInt8.ofNat (48 + v % 10)]⟩ ++ s) := by
  obtain ⟨h1, h2, h3⟩ := h
  refine ⟨by rw [h1, Nat.div_div_eq_div_mul, Nat.pow_succ], ?_, ?_⟩
  · rw [h2]
    apply ByteArray.ext
    rw [ByteArray.data_append]
    simp [lowDigits, Lib.dg, h1]
  · rcases hg with hg | hg
    · have : ¬ Lib.nDigits u ≤ j := fun hle => by
        have h4 := Lib.lt_pow_nDigits u
        have h5 : 10 ^ Lib.nDigits u ≤ 10 ^ j := Nat.pow_le_pow_right (by decide) hle
        rw [Nat.div_eq_of_lt (by omega)] at h1
        omega
      omega
    · omega
theorem DigitsTo.last {u least j v : Nat} {s : ByteArray} (h : DigitsTo u least j v s) (hl : 1 ≤ least) (hv : v = 0) (hj : least ≤ j) : s = ⟨(lowDigits u (max least (Lib.nDigits u))).toArray⟩ := by
  obtain ⟨h1, h2, h3⟩ := h
  have : j = max least (Lib.nDigits u) := by
    rcases Nat.lt_or_ge j (Lib.nDigits u) with hlt | hge
    · obtain ⟨k, hk⟩ : ∃ k, j = k + 1 := ⟨j - 1, by omega⟩
      have := nDigits_le u k (by
        rw [hv] at h1
        rw [← hk]
        exact (Nat.div_eq_zero_iff_lt (Nat.pow_pos (by decide))).1 h1.symm)
      omega
    · omega
  rw [h2, this]

set_option maxHeartbeats 1000000 in
set_option maxRecDepth 100000 in
theorem refDigits_any (u : Nat) (n least : Int) (hn : n = u) (k : Nat) (hk : least = k) (hl : 1 ≤ least) (hl2 : least ≤ 10) (hu : n ≤ 1152921504606846976) (w : World) :
    Calls Tryz.prog 104 #[.int .i64 n, .int .i64 least] w (Gives w (.string ⟨(lowDigits u (max k (Lib.nDigits u))).toArray⟩)) := by
  have hnd : max k (Lib.nDigits u) ≤ 20 := by
    have := nDigits_le u 18 (by omega)
    omega
  have hn0 : 0 ≤ n := by omega
  have HD := hide hnd
  have HN := hide hn
  have HK := hide hk
  clear hnd hn hk
  go_enter Tryz.func104, Tryz.ntmps104
  go_wp2
  go_loopw [0, 5] (fun n o wr => ∃ (a : Int) (s : ByteArray), n = .int .i64 a ∧ o = .string s ∧ Hid (∃ (v j : Nat), a = v ∧ DigitsTo u k j v s) ∧ 0 ≤ a ∧ a ≤ 1152921504606846976 ∧ ∃ x : After w.heap.size w, wr = x.val) (fun _ o _ => 20 - (match o with | .string s => s.size | _ => 0))
  case atStart => exact ⟨n, _, rfl, rfl, hide ⟨u, 0, HN.out, DigitsTo.start u k⟩, hn0, hu, After.refl _ _, rfl⟩
  case round =>
    obtain ⟨a, s, rfl, rfl, hd, ha, ha2, x, rfl⟩ := hrel
    have hm := Int.emod_nonneg a (show (10 : Int) ≠ 0 by decide)
    have hm2 := Int.emod_lt_of_pos a (show (0 : Int) < 10 by decide)
    have kc := run_byte_string x.val (48 + a % 10) (by omega) (by omega)
    have hsz : s.size ≤ 20 := by obtain ⟨v, j, _, hd⟩ := hd; have := hd.size; have := hd.2.2; have := HD.out; omega
    have nx : 0 < a ∨ (s.size : Int) < least → Hid (∃ (v' j' : Nat), a / 10 = v' ∧ DigitsTo u k j' v' (⟨#[UInt8.ofNat (48 + a % 10).toNat]⟩ ++ s)) := by
      intro hg
      obtain ⟨v, j, rfl, hd⟩ := hd
      have hsz := hd.size
      have hk := HK.out
      refine hide ⟨v / 10, j + 1, by omega, ?_⟩
      have := hd.next (by omega)
      rwa [show (48 + (v : Int) % 10).toNat = 48 + v % 10 by omega]
    have NX := hide nx
    have la : ¬ 0 < a → ¬ (s.size : Int) < least → s = ⟨(lowDigits u (max k (Lib.nDigits u))).toArray⟩ := by
      intro h1 h2
      obtain ⟨v, j, rfl, hd⟩ := hd
      have hsz := hd.size
      have hk := HK.out
      exact hd.last (by omega) (by omega) (by omega)
    have LA := hide la
    clear la nx
    by_cases hg : 0 < a
    · go_wp2
      go_roundw
      case rel => exact ⟨a / 10, _, rfl, rfl, NX.out (Or.inl hg), by omega, by omega, After.exists_iff (x.below.trans ((Below.refl _ _).alloc x.size _))⟩
      case measure =>
        obtain ⟨v', j', _, hd'⟩ := NX.out (Or.inl hg)
        have h1 := hd'.size
        have h2 := hd'.2.2
        have h3 := HD.out
        rw [ByteArray.size_append] at h1
        have h4 : (⟨#[UInt8.ofNat (48 + a % 10).toNat]⟩ : ByteArray).size = 1 := rfl
        simp [ByteArray.size_append]
        omega
    · by_cases hg2 : (s.size : Int) < least
      · go_wp2
        go_roundw
        case rel => exact ⟨a / 10, _, rfl, rfl, NX.out (Or.inr hg2), by omega, by omega, After.exists_iff (x.below.trans ((Below.refl _ _).alloc x.size _))⟩
        case measure =>
          obtain ⟨v', j', _, hd'⟩ := NX.out (Or.inr hg2)
          have h1 := hd'.size
          have h2 := hd'.2.2
          have h3 := HD.out
          rw [ByteArray.size_append] at h1
          have h4 : (⟨#[UInt8.ofNat (48 + a % 10).toNat]⟩ : ByteArray).size = 1 := rfl
          simp [ByteArray.size_append]
          omega
      · go_wp2
        go_ret
        exact Gives.mk (congrArg Value.string (LA.out hg hg2)) x.below


theorem digits_itoa {n : Int} (h : 0 ≤ n) : (⟨(lowDigits n.natAbs (max 1 (Lib.nDigits n.natAbs))).toArray⟩ : ByteArray) = numT n := by
  have h1 : max 1 (Lib.nDigits n.natAbs) = Lib.nDigits n.natAbs := by have := Lib.nDigits_pos n.natAbs; omega
  obtain ⟨m, rfl⟩ : ∃ m : Nat, n = m := ⟨n.toNat, by omega⟩
  rw [h1, ← decDigits_low, numT, itoa_of_nat]; rfl
set_option maxHeartbeats 1000000 in
theorem format0_any (n : Int) (h0 : 0 ≤ n) (h1 : n ≤ 1152921504606846976) (w : World) : Calls Tryz.prog 76 #[.int .i64 n, .int .i64 0] w (Gives w (.string (numT n))) := by
  have KD := hide (digits_itoa h0 ▸ refDigits_any n.natAbs n 1 (by omega) 1 rfl (by omega) (by omega) h1 w)
  have hsz : (numT n).size ≤ 21 := by have := itoa_21 n ⟨by omega, by omega⟩; simpa [numT, ByteArray.size] using this
  have h2 : ¬ n < 0 := by omega
  go_enter Tryz.func76, Tryz.ntmps76
  go_wp2_with fail
  refine (Gives.first KD.out).mono ?_
  rintro e w1 ⟨rfl, y1, rfl⟩
  go_wp2
  go_ret
  exact Gives.mk (congrArg Value.string (by first | rfl | simp)) y1.below
theorem number33_any (n : Int) (h0 : 0 ≤ n) (h1 : n ≤ 1152921504606846976) (w : World) : Calls Tryz.prog 48 #[.int .i64 n] w (Gives w (.string (numT n))) := by
  have KD := hide (format0_any n h0 h1 w)
  go_enter Tryz.func48, Tryz.ntmps48
  go_wp2_with fail
  refine (Gives.first KD.out).mono ?_
  rintro e w1 ⟨rfl, y1, rfl⟩
  go_wp2
  go_ret
  exact Gives.mk rfl y1.below
end Go.Proofs.YtliehhnnfpkciaaGreatDoor
namespace Go.Proofs.YtliehhnnfpkciaaGreatDoor
open Go.RowKit

theorem bs_plus' (a b : ByteArray) : bs (a ++ b) = bs a ++ bs b := by rw [bs_data, bs_data, bs_data]; simp
theorem boxedD (w : World) (o : Obj) : ∃ W : World, W = (w.alloc o).drew ∧ W.heap.size = w.heap.size + 1 ∧ Below w.heap.size w W ∧ W.heap[w.heap.size]? = some o :=
  ⟨_, rfl, by simp, ((Below.refl _ _).alloc (Nat.le_refl _) _).drew, heap_alloc_new w _⟩
theorem numT_size (n : Int) (h : I64 n) : (numT n).size ≤ 21 := by have := itoa_21 n h; simpa [numT, ByteArray.size] using this
/-- a text that is a list of bytes, not too long -/
def TextIs (T : ByteArray) (l : List UInt8) (most : Nat) : Prop := bs T = l ∧ T.size ≤ most
theorem setLn_sum (T : ByteArray) (s : SetD) : bs (T ++ s.name ++ ⟨#[32, 97, 116, 32]⟩ ++ numT s.depth ++ ⟨#[32, 108, 105, 110, 101, 115, 32]⟩ ++ numT s.lines.l.length ++ ⟨#[32, 105, 116, 101, 109, 115, 32]⟩ ++ numT s.items.l.length ++ ⟨#[10]⟩) = bs T ++ (setLn s ++ [10]) := by
  simp only [bs_plus', numT_bs, setLn, setLine, atW, linesW, itemsW]
  simp [bs_data]
theorem beamLn_sum (T : ByteArray) (b : RoofD) : bs (T ++ ⟨#[98, 101, 97, 109, 32]⟩ ++ b.name ++ ⟨#[32, 102, 114, 111, 109, 32]⟩ ++ numT b.fro ++ ⟨#[32, 116, 111, 32]⟩ ++ numT b.til ++ ⟨#[10]⟩) = bs T ++ (beamLn b ++ [10]) := by
  simp only [bs_plus', numT_bs, beamLn, beamLine, beamW, fromW, toW]
  simp [bs_data]
theorem text_next {T T' : ByteArray} {l x : List UInt8} {m : Nat} (h : TextIs T l m) (e : bs T' = bs T ++ (x ++ [10])) (hx : x.length ≤ 200) : TextIs T' (l ++ (x ++ [10])) (m + 201) := by
  refine ⟨by rw [e, h.1], ?_⟩
  rw [← bs_length, e, List.length_append, bs_length, List.length_append, List.length_cons, List.length_nil]
  have := h.2
  omega
theorem beam_bounds {h : HouseD} (hh : houseOk h = true) {b : RoofD} (hb : b ∈ h.roofs.l) : 0 ≤ b.fro ∧ 0 ≤ b.til ∧ b.til ≤ 1048576 ∧ b.fro ≤ 1048576 := by
  have h2 := roofs_of_ok hh
  rw [roofsOk, Bool.and_eq_true] at h2
  obtain ⟨j, hj, e⟩ := List.getElem_of_mem hb
  have h3 := allIdx_iff.1 h2.2 j b (by rw [List.getElem?_eq_getElem hj, e])
  rw [roofAt, Bool.and_eq_true, roofFine] at h3
  simp only [Bool.and_eq_true, decide_eq_true_eq] at h3
  omega
set_option maxRecDepth 100000 in
set_option maxHeartbeats 8000000 in
theorem refLegend_good (h : HouseD) (hok : h.ok) (hh : houseOk h = true) (h20 : h.sets.l.length < 20) (w : World) (B : Nat) (hB : B ≤ w.heap.size) (hat : HouseD.at_ w B h) :
    Calls Tryz.prog 16 #[.agg #[.string h.name, .int .i64 h.height, .slice h.sets.A h.sets.l.length h.sets.cap, .slice h.roofs.A h.roofs.l.length h.roofs.cap]] w (Gives w (.string ⟨(legT h.sets.l h.roofs.l).toArray⟩)) := by
  obtain ⟨W, hW, hWs, hWb, hWh⟩ := boxed w (.cells #[.string h.name, .int .i64 h.height, .slice h.sets.A h.sets.l.length h.sets.cap, .slice h.roofs.A h.roofs.l.length h.roofs.cap] 25)
  have hc := fun y : After W.heap.size W => HouseD.boxed hWh (by omega) y
  have hatW : HouseD.at_ W W.heap.size h := hat.to (hWb.mono hB) (by omega)
  have hz := sized_of_ok hh
  have KO := hide (refOrder_good h hz h20 W W.heap.size (Nat.le_refl _) hatW)
  have HLF := hide fun s (hs : s ∈ h.sets.l) => lineFit_of hok hh hs
  have HBF := hide fun s (hs : s ∈ h.roofs.l) => beamFit_of hok hh hs
  have HBB := hide fun s (hs : s ∈ h.roofs.l) => beam_bounds hh hs
  have HZ := hide hz
  have hr20 := roofs_20 hh
  have HSB := hide hatW.sets
  have HSR := hide hatW.roofs
  have hlcb : h.sets.l.length ≤ h.sets.cap := hat.sets.1
  have hmb : h.sets.cap ≤ 9223372036854775807 := hat.sets.2.1
  have hlcr : h.roofs.l.length ≤ h.roofs.cap := hat.roofs.1
  have hmr : h.roofs.cap ≤ 9223372036854775807 := hat.roofs.2.1
  have hol := orderE_length (dep h.sets.l) h.sets.l.length
  have holt := fun i (hi : i ∈ orderE (dep h.sets.l) h.sets.l.length) => orderE_lt _ hi
  have HBD := hide fun y : After W.heap.size W => hWb.trans (y.below.mono (by omega))
  have HW := hide hW
  have HLT := hide (show w.heap.size < W.heap.size by omega)
  have HLEG := hide (show legT h.sets.l h.roofs.l = setsT h.sets.l (orderE (dep h.sets.l) h.sets.l.length) ++ beamsT h.roofs.l from rfl)
  obtain ⟨res, hres⟩ : ∃ res, res = legT h.sets.l h.roofs.l := ⟨_, rfl⟩
  rw [← hres] at HLEG ⊢
  clear hW hWh hWb hat hatW hh hok hres hz hWs
  unfold RefOrdered at KO
  generalize orderE (dep h.sets.l) h.sets.l.length = o at *
  obtain ⟨name, height, ⟨A, cap, l⟩, ⟨A', cap', l'⟩⟩ := h
  simp only at *
  have hc0 := hc (After.refl _ W)
  simp only [After.refl] at hc0
  have HHC := hide hc
  have HOL := hide hol
  have HOT := hide holt
  clear hc hol holt
  go_enter Tryz.func16, Tryz.ntmps16
  go_wp2_with fail
  rw [← HW.out]
  refine KO.out.mono ?_
  rintro e Z ⟨OA, ocap, rfl, hoc1, hoc2, hbZ, hnums⟩
  have HNU := hide hnums
  have HBZ := hide hbZ
  have hoc2' : ocap ≤ 9223372036854775807 := hoc2
  clear hbZ hnums KO hoc2 hc0
  go_wp2
  go_loopw [3, 5, 6] (fun u v _ wr => ∃ (k : Nat) (T : ByteArray), u = .string T ∧ v = .int .i64 k ∧ k ≤ l.length ∧ Hid (TextIs T (setsT l (o.take k)) (201 * k)) ∧ ∃ x : After Z.heap.size Z, wr = x.val) (fun _ v _ _ => l.length - (intOf v).toNat)
  case atStart => exact ⟨0, ⟨#[]⟩, rfl, rfl, Nat.zero_le _, hide ⟨by simp [setsT, bs_data], by show 0 ≤ _; omega⟩, After.refl _ _, rfl⟩
  case round =>
    obtain ⟨k, T, rfl, rfl, hk, HT, x, rfl⟩ := hrel
    have hWx : Below W.heap.size W x.val := HBZ.out.trans (x.below.mono HBZ.out.size)
    have hcx := HHC.out ⟨x.val, hWx⟩
    simp only at hcx
    by_cases hlt : k < l.length
    · obtain ⟨g, hgA, hnum⟩ := HNU.out (by omega)
      subst hgA
      obtain ⟨i, hxo⟩ : ∃ i, o[k]? = some i := ⟨_, List.getElem?_eq_getElem (show k < o.length by rw [HOL.out]; exact hlt)⟩
      have hlo : i < l.length := HOT.out _ (List.mem_of_getElem? hxo)
      have hcn := fun z : After x.val.heap.size x.val => ((x.below.trans (z.below.mono x.size)).cell (p := ⟨g, k, none⟩) hnum.lt).trans (hnum.cell hxo)
      obtain ⟨bb, off, hA, hbb, hcell⟩ := HSB.out.2.2 (show 0 < l.length by omega)
      simp only at hA
      subst hA
      have hx : l[i]? = some l[i] := List.getElem?_eq_getElem hlo
      have hmem := List.getElem_mem hlo
      have hlf := HLF.out l[i] hmem
      have hsd := HZ.out l[i] hmem
      have hcz := fun z : After x.val.heap.size x.val => HHC.out ⟨z.val, hWx.trans (z.below.mono hWx.size)⟩
      have he := fun z : After x.val.heap.size x.val => SetD.elem hx hbb hcell ⟨z.val, hWx.trans (z.below.mono hWx.size)⟩
      simp only at he hcz
      have HNX := hide (show setsT l (o.take (k + 1)) = setsT l (o.take k) ++ (setLn l[i] ++ [10]) from by rw [setsT, flat_next hxo, setLnAt_of hx]; rfl)
      have hls := setLn_size hlf.name hlf.depth (by have := hlf.lines; omega) (by have := hlf.items; omega)
      have HTN := hide (text_next HT.out (setLn_sum T l[i]) hls)
      have hTs : T.size ≤ 4020 := by have := HT.out.2; omega
      have hns := isName_size hlf.name
      have hd := hlf.depth
      have hl10 := hlf.lines
      have hi40 := hlf.items
      have hn1 := numT_size l[i].depth hd
      have hn2 := numT_size (l[i].lines.l.length : Int) ⟨by omega, by omega⟩
      have hn3 := numT_size (l[i].items.l.length : Int) ⟨by omega, by omega⟩
      have k0 : (0 : Int) ≤ (k : Int) := by omega
      have k1 : (k : Int) < (l.length : Int) := by omega
      have i0 : (0 : Int) ≤ (i : Int) := by omega
      have i1 : (i : Int) < (l.length : Int) := by omega
      clear hls hcell hx hmem hxo hlf
      generalize l[i] = s at *
      have hd0 := hsd.1
      have hd1 := hsd.2.1
      have KN := hide fun (n : Int) (h0 : 0 ≤ n) (h1 : n ≤ 1152921504606846976) (V : World) (y : After V.heap.size V) => Gives.after (x := y) (Nat.le_refl _) (number33_any n h0 h1 y.val)
      go_wp2_with fail
      have hgX : g < x.val.heap.size := Nat.lt_of_lt_of_le hnum.lt x.size
      have hbX : bb < x.val.heap.size := Nat.lt_of_lt_of_le hbb hWx.size
      have hwX : w.heap.size < x.val.heap.size := Nat.lt_of_lt_of_le HLT.out hWx.size
      have hcn0 := hcn (After.refl _ _)
      have hcz0 := hcz (After.refl _ _)
      have he0 := he (After.refl _ _)
      have HXB := hide (x.below : Below Z.heap.size Z x.val)
      simp only [After.refl] at hcn0 hcz0 he0
      clear hcn hcz he hcx HNU hnum hWx hbb
      generalize x.val = X at *
      obtain ⟨V, hV, hVs, hVb, hVh⟩ := boxedD X (.cells #[.string s.name, .int .i64 s.depth, .int .i64 s.low, .int .i64 s.high, .int .i64 s.length, .slice s.lines.A s.lines.l.length s.lines.cap, .int .i64 s.pipe, .int .i64 s.arbor, .int .i64 s.purchase, .int .i64 s.most, .int .i64 s.brake, .slice s.items.A s.items.l.length s.items.cap, .slice s.bricks.A s.bricks.l.length s.bricks.cap] 49)
      have hbx := fun y : After V.heap.size V => SetD.boxed (s := s) hVh (by omega) y
      have HXV := hide (show ∀ y : After V.heap.size V, ∃ q : After Z.heap.size Z, y.val = q.val from fun y => ⟨⟨y.val, (HXB.out.trans (hVb.mono HXB.out.size)).trans (y.below.mono (Nat.le_trans HXB.out.size hVb.size))⟩, rfl⟩)
      have HV := hide hV
      clear hV hVs hVb hVh
      go_region
      go_wp2_with fail
      rw [← HV.out]
      refine wp_region_first V.heap.size (by kernel_rfl) (by kernel_rfl) ?_
      repeat (go_big_quiet_step ((go_at_call 48; exact KN.out _ (by omega) (by omega) V _)))
      refine wpQuiet_nil ?_
      intro y
      go_wp2
      exact ⟨⟨k + 1, _, rfl, by go_num, by omega, by rw [HNX.out]; exact hide HTN.out, HXV.out y⟩, by simp [intOf]; omega⟩
    · have hkl : k = l.length := by omega
      subst hkl
      have htk : o.take l.length = o := by rw [← HOL.out, List.take_length]
      rw [htk] at HT
      clear htk HNU
      go_wp2
      go_loopw [3, 7] (fun u v wr => ∃ (k : Nat) (T : ByteArray), u = .string T ∧ v = .int .i64 k ∧ k ≤ l'.length ∧ Hid (TextIs T (setsT l o ++ beamsT (l'.take k)) (4020 + 201 * k)) ∧ ∃ x : After Z.heap.size Z, wr = x.val) (fun _ v _ => l'.length - (intOf v).toNat)
      case atStart => exact ⟨0, T, rfl, rfl, Nat.zero_le _, hide ⟨by simpa [beamsT] using HT.out.1, by have := HT.out.2; omega⟩, x, rfl⟩
      case round =>
        clear HT hcx hWx x
        obtain ⟨k, T, rfl, rfl, hk, HT, x, rfl⟩ := hrel
        have hcx := fun z : After Z.heap.size Z => HHC.out ⟨z.val, HBZ.out.trans (z.below.mono HBZ.out.size)⟩
        simp only at hcx
        by_cases hlt' : k < l'.length
        · obtain ⟨bb, off, hA, hbb, hcell⟩ := HSR.out.2.2 (show 0 < l'.length by omega)
          simp only at hA
          subst hA
          have hx : l'[k]? = some l'[k] := List.getElem?_eq_getElem hlt'
          have hmem := List.getElem_mem hlt'
          have hlf := HBF.out l'[k] hmem
          have hbt := HBB.out l'[k] hmem
          have he := fun z : After Z.heap.size Z => RoofD.elem hx hbb hcell ⟨z.val, HBZ.out.trans (z.below.mono HBZ.out.size)⟩
          simp only at he
          have HNX := hide (show setsT l o ++ beamsT (l'.take (k + 1)) = (setsT l o ++ beamsT (l'.take k)) ++ (beamLn l'[k] ++ [10]) from by rw [beamsT, flat_next hx, List.append_assoc]; rfl)
          have hls := beamLn_size hlf.name hlf.fro hlf.til
          have HTN := hide (text_next HT.out (beamLn_sum T l'[k]) (by omega))
          have hTs : T.size ≤ 8040 := by have := HT.out.2; omega
          have hns := isName_size hlf.name
          have hf := hlf.fro
          have htl := hlf.til
          have hn1 := numT_size l'[k].fro hf
          have hn2 := numT_size l'[k].til htl
          have k0 : (0 : Int) ≤ (k : Int) := by omega
          have k1 : (k : Int) < (l'.length : Int) := by omega
          clear hls hcell hx hmem hlf
          generalize l'[k] = s at *
          obtain ⟨hb0, hb1, hb2, hb3⟩ := hbt
          have KN := hide fun (n : Int) (h0 : 0 ≤ n) (h1 : n ≤ 1152921504606846976) (y : After Z.heap.size Z) => Gives.after (x := y) (Nat.le_refl _) (number33_any n h0 h1 y.val)
          have hc1 := hcx x
          go_wp2_with fail
          refine wp_region_after x (by kernel_rfl) (by kernel_rfl) ?_
          repeat (go_big_quiet_step ((go_at_call 48; exact KN.out _ (by omega) (by omega) _)))
          refine wpQuiet_nil ?_
          intro y
          go_wp2
          exact ⟨⟨k + 1, _, rfl, by go_num, by omega, by rw [HNX.out]; exact hide ⟨HTN.out.1, by have := HTN.out.2; omega⟩, y, rfl⟩, by simp [intOf]; omega⟩
        · have hkl : k = l'.length := by omega
          subst hkl
          rw [List.take_length, ← HLEG.out] at HT
          have hT : T = ⟨res.toArray⟩ := by
            rw [← HT.out.1, bs_data]
          subst hT
          have hc1 := hcx x
          go_wp2
          go_ret
          exact Gives.mk rfl (HBD.out ⟨x.val, HBZ.out.trans (x.below.mono HBZ.out.size)⟩)
end Go.Proofs.YtliehhnnfpkciaaGreatDoor
