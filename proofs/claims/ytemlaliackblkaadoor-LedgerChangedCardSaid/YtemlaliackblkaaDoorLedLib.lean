/- The library's functions that ledgers call, in the words of this family. -/
import Derived.Test.YtemlaliackblkaaDoorShelf
import Derived.Test.YtemlaliackblkaaDoorLedRef
import Derived.Lib.AppendIntMem
import Derived.Lib.ItoaLen
import Derived.Lib.SlFresh
namespace Go.Proofs.YtemlaliackblkaaDoor
open Go.RowKit

/-- what the library's variables hold: the powers of ten, some number in MaxLen, some errors -/
def Tabs (w : World) : Prop := Lib.TabIs Tryd.prog w "internal/strconv.uint64pow10" .u64 Lib.pow10Tab ∧ (0 < w.heap.size ∧ 2 < w.heap.size ∧ 3 < w.heap.size) ∧
  (∃ m, w.cell? ⟨0, 0, none⟩ = some (.int .i64 m)) ∧ (∃ t p, w.cell? ⟨2, 0, none⟩ = some (.iface t p)) ∧ ∃ t p, w.cell? ⟨3, 0, none⟩ = some (.iface t p)
theorem Tabs.below {w w' : World} (h : Tabs w) (hb : Below w.heap.size w w') : Tabs w' := by
  obtain ⟨h1, ⟨h2, h3, h4⟩, ⟨m, h5⟩, ⟨t, p, h6⟩, t', p', h7⟩ := h
  exact ⟨Lib.tabBelow_of_tabIs h1 w' hb, ⟨Nat.lt_of_lt_of_le h2 hb.size, Nat.lt_of_lt_of_le h3 hb.size, Nat.lt_of_lt_of_le h4 hb.size⟩, ⟨m, (hb.cell h2).trans h5⟩, ⟨t, p, (hb.cell h3).trans h6⟩, t', p', (hb.cell h4).trans h7⟩
theorem itoa_any (n : Int) (h : I64 n) (w : World) (ht : Tabs w) : Calls Tryd.prog 47 #[.int .i64 n] w (Gives w (.string ⟨(Lib.itoa n).toArray⟩)) :=
  (Tryd.strconv_Itoa n h.1 h.2 w ht.1).mono fun e w' ⟨he, k, os, hw⟩ => ⟨he, by rw [hw]; exact Lib.below_grow _ w (Nat.le_refl _) k os⟩
theorem itoa_size (n : Int) (h : I64 n) : (⟨(Lib.itoa n).toArray⟩ : ByteArray).size ≤ 21 := by
  have := Lib.itoa_length_le n h.1 h.2
  simpa [ByteArray.size] using this
/-- strconv.Atoi: a number and nil, or some number and an error -/
theorem atoi_any (s : ByteArray) (hs : s.size ≤ 140737488355328) (w : World) (ht : Tabs w) : Calls Tryd.prog 70 #[.string s] w fun e w' =>
    ∃ v er, e = .returned (.tuple #[.int .i64 v, er]) ∧ Below w.heap.size w w' ∧ ((Lib.atoiAll (bs s) = .ok v ∧ er = .nilIface) ∨ ((∀ n, Lib.atoiAll (bs s) ≠ .ok n) ∧ ∃ t p, er = .iface t p)) := by
  obtain ⟨_, _, _, ⟨t, p, h6⟩, t', p', h7⟩ := ht
  rw [bs_data]
  rcases h : Lib.atoiAll s.data.toList with v | _ | _
  · refine (Tryd.strconv_Atoi_ok s (by omega) v h w).mono ?_
    rintro e w' ⟨rfl, hw⟩
    refine ⟨v, _, rfl, ?_, Or.inl ⟨rfl, rfl⟩⟩
    rcases hw with rfl | ⟨t, rfl⟩
    · exact Below.refl _ _
    · exact Joins.below_bytesWorld _ _ _ _ (Nat.le_refl _)
  · refine (Tryd.strconv_Atoi_syntax s (by omega) h _ w h6 (Or.inr ⟨_, _, rfl⟩)).mono ?_
    rintro e w' ⟨N, rfl, _, _, hb⟩
    exact ⟨_, _, rfl, hb, Or.inr ⟨(fun n hn => (by cases hn)), _, _, rfl⟩⟩
  · refine (Tryd.strconv_Atoi_range s (by omega) h _ w h7 (Or.inr ⟨_, _, rfl⟩)).mono ?_
    rintro e w' ⟨N, rfl, _, _, hb⟩
    exact ⟨_, _, rfl, hb, Or.inr ⟨(fun n hn => (by cases hn)), _, _, rfl⟩⟩
theorem split_any (k : UInt8) (s : ByteArray) (w : World) (ht : Tabs w) (hs : s.size ≤ 4000000000) : Calls Tryd.prog 55 #[.string s, .string ⟨#[k]⟩] w fun e w' =>
    ∃ LB : List ByteArray, LB.map bs = partsOf k (bs s) ∧ e = .returned (.slice (some ⟨w.heap.size, 0, none⟩) LB.length LB.length) ∧ w' = w.alloc (.cells (LB.map Value.string).toArray 9) := by
  obtain ⟨_, _, ⟨m, hm⟩, _⟩ := ht
  refine (Tryd.strings_Split s ⟨#[k]⟩ m w (by omega) hm (by show 1 ≤ (#[k] : Array UInt8).size; simp)).mono ?_
  rintro e w' ⟨he, hw⟩
  have h1 := split_parts k s.size (bs s) (by rw [bs_length]; omega)
  have h2 : Lib.countB s ⟨#[k]⟩ = (bs s).count k := by rw [← h1.1, bs_data]
  have h3 : (Lib.splitB ⟨#[k]⟩ 0 (Lib.countB s ⟨#[k]⟩) s).map bs = partsOf k (bs s) := by
    rw [← h1.2, h2, bs_data s, show ([k] : List UInt8) = (⟨#[k]⟩ : ByteArray).data.toList from rfl, ← Lib.splitB_data ⟨#[k]⟩ 0]
    exact List.map_congr_left fun x _ => bs_data x
  have h4 : (Lib.splitB ⟨#[k]⟩ 0 (Lib.countB s ⟨#[k]⟩) s).length = Lib.countB s ⟨#[k]⟩ + 1 := by
    have := congrArg List.length h3
    rw [List.length_map, partsOf_length] at this
    omega
  exact ⟨_, h3, by rw [he, h4], hw⟩

/-! ### rows of bytes -/
def nums (l : List UInt8) : List Int := l.map fun c => (c.toNat : Int)
theorem nums_length (l : List UInt8) : (nums l).length = l.length := by simp [nums]
theorem nums_bytes (l : List UInt8) : Lib.bytesOf (nums l) = l := by
  unfold Lib.bytesOf nums
  rw [List.map_map]
  conv => rhs; rw [← List.map_id l]
  apply List.map_congr_left
  intro c _
  simp
theorem bytesIn_of {w : World} {B : Nat} {A : Option Addr} {cap : Nat} {l : List UInt8} (h : SlAt w B 1 byteCells ⟨A, cap, l⟩) : Lib.BytesIn w A l.length (nums l) := fun hn => by
  obtain ⟨b, off, hA, _, hc⟩ := h.2.2 hn
  refine ⟨b, off, hA, fun i hi => ?_⟩
  have := hc i l[i] (List.getElem?_eq_getElem hi) 0 _ rfl
  rw [Nat.mul_one, Nat.add_zero] at this
  rw [this]
  simp [nums, List.getD, hi]
theorem bytes_of {w : World} {B g off cap : Nat} {l : List UInt8} (h : SlAt w B 1 byteCells ⟨some ⟨g, off, none⟩, cap, l⟩) : Lib.Bytes w g off ⟨l.toArray⟩ := fun i hi => by
  have hi' : i < l.length := by simpa [ByteArray.size] using hi
  obtain ⟨b, o, hA, _, hc⟩ := h.2.2 (show 0 < l.length by omega)
  injection hA with hA
  injection hA with e1 e2
  subst e1 e2
  have := hc i l[i] (List.getElem?_eq_getElem hi') 0 _ rfl
  rw [Nat.mul_one, Nat.add_zero] at this
  rw [this]; rfl
section
variable {w : World} {B B' : Nat} {A A' : Option Addr} {cap cap' : Nat} {l l' : List UInt8}
theorem equalBytes_any (h : SlAt w B 1 byteCells ⟨A, cap, l⟩) (h' : SlAt w B' 1 byteCells ⟨A', cap', l'⟩) :
    Calls Tryd.prog 13 #[.slice A l.length cap, .slice A' l'.length cap'] w (Gives w (.bool (l == l'))) :=
  (Tryd.bytes_Equal_all A A' l.length cap l'.length cap' (nums l) (nums l') w (nums_length l) (nums_length l') (bytesIn_of h) (bytesIn_of h')).mono fun e w' ⟨he, hw⟩ => ⟨by rw [he, nums_bytes, nums_bytes], by rw [hw]; exact Below.refl _ _⟩
theorem hasPrefix_any (h : SlAt w B 1 byteCells ⟨A, cap, l⟩) (h' : SlAt w B' 1 byteCells ⟨A', cap', l'⟩) :
    Calls Tryd.prog 27 #[.slice A l.length cap, .slice A' l'.length cap'] w (Gives w (.bool (Lib.hasPrefix l l'))) :=
  (Tryd.bytes_HasPrefix_all A A' l.length cap l'.length cap' (nums l) (nums l') w (nums_length l) (nums_length l') h.1 (bytesIn_of h) (bytesIn_of h')).mono fun e w' ⟨he, hw⟩ => ⟨by rw [he, nums_bytes, nums_bytes], by rw [hw]; exact Below.refl _ _⟩
/-- where the first line ends -/
theorem index_find (l : List UInt8) : Lib.indexByte l 10 = match l.findIdx? (fun c => c == 10) with | some m => (m : Int) | none => -1 := by
  have hge := Lib.indexByte_ge l 10
  by_cases h : Lib.indexByte l 10 = -1
  · rw [h, find_none' fun j d _ hd e => Lib.indexByte_none h j (by rw [hd, e])]
  · obtain ⟨o, ho⟩ : ∃ o : Nat, Lib.indexByte l 10 = o := ⟨(Lib.indexByte l 10).toNat, by omega⟩
    obtain ⟨h1, h2⟩ := Lib.indexByte_some ho
    rw [ho, find_at h1 fun j d hj hd e => h2 j hj (by rw [hd, e])]
theorem indexByte_any (h : SlAt w B 1 byteCells ⟨A, cap, l⟩) (hn : 0 < l.length) :
    Calls Tryd.prog 54 #[.slice A l.length cap, .int .u8 10] w (Gives w (.int .i64 (Lib.indexByte l 10))) := by
  obtain ⟨b, o, e, hc⟩ := bytesIn_of h hn
  subst e
  exact (Tryd.bytes_IndexByte b o l.length cap (nums l) 10 w (nums_length l) hc).mono fun e w' ⟨he, hw⟩ => ⟨by rw [he, nums_bytes]; rfl, by rw [hw]; exact Below.refl _ _⟩
theorem countByte_any (h : SlAt w B 1 byteCells ⟨A, cap, l⟩) (hn : A = none → cap = 0) {b o d : Nat} (hc : w.cell? ⟨b, o, none⟩ = some (.int .u8 10)) :
    Calls Tryd.prog 30 #[.slice A l.length cap, .slice (some ⟨b, o, none⟩) 1 d] w (Gives w (.int .i64 (l.count 10 : Nat))) := by
  rcases Nat.eq_zero_or_pos l.length with h0 | h0
  · have hl : l = [] := List.eq_nil_of_length_eq_zero h0
    subst hl
    cases A with
    | none =>
      rw [hn rfl]
      exact (Tryd.bytes_Count_one_nil b o d 10 w hc).mono fun e w' ⟨he, hw⟩ => ⟨he, by rw [hw]; exact Below.refl _ _⟩
    | some a =>
      exact (Tryd.bytes_Count_one_at a 0 cap b o d [] 10 w rfl (fun i hi => absurd hi (by omega)) hc).mono fun e w' ⟨he, hw⟩ => ⟨he, by rw [hw]; exact Below.refl _ _⟩
  · obtain ⟨b1, o1, e, hc1⟩ := bytesIn_of h h0
    subst e
    exact (Tryd.bytes_Count_one b1 o1 l.length cap b o d (nums l) 10 w (nums_length l) hc1 hc).mono fun e w' ⟨he, hw⟩ => ⟨by rw [he, nums_bytes]; rfl, by rw [hw]; exact Below.refl _ _⟩
end
end Go.Proofs.YtemlaliackblkaaDoor
