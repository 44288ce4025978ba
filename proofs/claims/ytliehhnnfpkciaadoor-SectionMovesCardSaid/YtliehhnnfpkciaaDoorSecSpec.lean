/- What the section shows, in plain Lean: the cells one on another, the rows, the text; which trims are right. -/
import Derived.Test.YtliehhnnfpkciaaDoorSecRows
import Derived.Test.YtliehhnnfpkciaaDoorSecSize
namespace Go.Proofs.YtliehhnnfpkciaaDoor
open Go.RowKit

def zeroSet : SetD := ⟨⟨#[]⟩, 0, 0, 0, 0, ⟨none, 0, []⟩, 0, 0, 0, 0, 0, ⟨none, 0, []⟩, ⟨none, 0, []⟩⟩
def setN (l : List SetD) (k : Nat) : SetD := (l[k]?).getD zeroSet
theorem setN_of {l : List SetD} {k : Nat} {s : SetD} (h : l[k]? = some s) : setN l k = s := by simp [setN, h]
def lineStep (l : List SetD) (tr : List Int) (scale H : Int) (r c : Nat) (v : Int) (k : Nat) : Int := filled 124 0 (H - nth tr k / scale - 1) ((setN l k).depth / scale) ((setN l k).depth / scale) r c v
def itemStep (d t scale H : Int) (r c : Nat) (v : Int) (i : ItemD) : Int := filled 35 (H - t / scale) (H - (t - i.hang) / scale) ((d - i.back) / scale) ((d + i.front) / scale) r c v
def itemsStep (l : List SetD) (tr : List Int) (scale H : Int) (r c : Nat) (v : Int) (k : Nat) : Int := (setN l k).items.l.foldl (itemStep (setN l k).depth (nth tr k) scale H r c) v
def pipeStep (l : List SetD) (tr : List Int) (scale H : Int) (r c : Nat) (v : Int) (k : Nat) : Int := filled 43 (H - nth tr k / scale) (H - nth tr k / scale) ((setN l k).depth / scale) ((setN l k).depth / scale) r c v
def baseCell (r : Nat) : Int := if r = 0 then 61 else 46
def linesTo (l : List SetD) (tr : List Int) (scale H : Int) (r c n : Nat) : Int := (List.range n).foldl (lineStep l tr scale H r c) (baseCell r)
def itemsTo (l : List SetD) (tr : List Int) (scale H : Int) (r c n : Nat) : Int := (List.range n).foldl (itemsStep l tr scale H r c) (linesTo l tr scale H r c l.length)
def pipesTo (l : List SetD) (tr : List Int) (scale H : Int) (r c n : Nat) : Int := (List.range n).foldl (pipeStep l tr scale H r c) (itemsTo l tr scale H r c l.length)
def secCell (l : List SetD) (tr : List Int) (scale H : Int) (r c : Nat) : Int := pipesTo l tr scale H r c l.length
theorem linesTo_next (l : List SetD) (tr : List Int) (scale H : Int) (r c n : Nat) : linesTo l tr scale H r c (n + 1) = lineStep l tr scale H r c (linesTo l tr scale H r c n) n := by
  simp [linesTo, List.range_succ, List.foldl_append]
theorem itemsTo_next (l : List SetD) (tr : List Int) (scale H : Int) (r c n : Nat) : itemsTo l tr scale H r c (n + 1) = itemsStep l tr scale H r c (itemsTo l tr scale H r c n) n := by
  simp [itemsTo, List.range_succ, List.foldl_append]
theorem pipesTo_next (l : List SetD) (tr : List Int) (scale H : Int) (r c n : Nat) : pipesTo l tr scale H r c (n + 1) = pipeStep l tr scale H r c (pipesTo l tr scale H r c n) n := by
  simp [pipesTo, List.range_succ, List.foldl_append]
theorem itemFold_next {l : List ItemD} {k : Nat} {i : ItemD} (d t scale H : Int) (r c : Nat) (v : Int) (h : l[k]? = some i) : (l.take (k + 1)).foldl (itemStep d t scale H r c) v = itemStep d t scale H r c ((l.take k).foldl (itemStep d t scale H r c) v) i := by
  rw [List.take_add_one, h]; simp [List.foldl_append]
/-- a byte of the picture -/
def IsByte (v : Int) : Prop := 0 ≤ v ∧ v < 256
theorem filled_byte {x top bottom left right : Int} {r c : Nat} {v : Int} (hx : IsByte x) (hv : IsByte v) : IsByte (filled x top bottom left right r c v) := by
  unfold filled; split <;> assumption
theorem foldItem_byte {d t scale H : Int} {r c : Nat} : ∀ (l : List ItemD) {v : Int}, IsByte v → IsByte (l.foldl (itemStep d t scale H r c) v)
  | [], _, h => h
  | i :: l, _, h => by rw [List.foldl_cons]; exact foldItem_byte l (filled_byte ⟨by omega, by omega⟩ h)
theorem linesTo_byte (l : List SetD) (tr : List Int) (scale H : Int) (r c : Nat) : ∀ n, IsByte (linesTo l tr scale H r c n)
  | 0 => by simp [linesTo, baseCell, IsByte]; split <;> omega
  | n + 1 => by rw [linesTo_next]; exact filled_byte ⟨by omega, by omega⟩ (linesTo_byte l tr scale H r c n)
theorem itemsTo_byte (l : List SetD) (tr : List Int) (scale H : Int) (r c : Nat) : ∀ n, IsByte (itemsTo l tr scale H r c n)
  | 0 => linesTo_byte l tr scale H r c _
  | n + 1 => by rw [itemsTo_next]; exact foldItem_byte _ (itemsTo_byte l tr scale H r c n)
theorem pipesTo_byte (l : List SetD) (tr : List Int) (scale H : Int) (r c : Nat) : ∀ n, IsByte (pipesTo l tr scale H r c n)
  | 0 => itemsTo_byte l tr scale H r c _
  | n + 1 => by rw [pipesTo_next]; exact filled_byte ⟨by omega, by omega⟩ (pipesTo_byte l tr scale H r c n)

/-! ### the text -/
def secByte (l : List SetD) (tr : List Int) (scale H : Int) (r c : Nat) : UInt8 := UInt8.ofNat (secCell l tr scale H r c).toNat
theorem secByte_toNat (l : List SetD) (tr : List Int) (scale H : Int) (r c : Nat) : ((secByte l tr scale H r c).toNat : Int) = secCell l tr scale H r c := by
  obtain ⟨a, b⟩ := pipesTo_byte l tr scale H r c l.length
  change 0 ≤ secCell l tr scale H r c at a
  change secCell l tr scale H r c < 256 at b
  unfold secByte
  rw [UInt8.toNat_ofNat']
  omega
def secRow (l : List SetD) (tr : List Int) (scale H : Int) (r j : Nat) : List UInt8 := (List.range j).map fun c => secByte l tr scale H r c
def secText (l : List SetD) (tr : List Int) (scale H : Int) (C : Nat) : Nat → List UInt8
  | 0 => []
  | i + 1 => secText l tr scale H C i ++ secRow l tr scale H i C ++ [10]
theorem secRow_next (l : List SetD) (tr : List Int) (scale H : Int) (r j : Nat) : secRow l tr scale H r (j + 1) = secRow l tr scale H r j ++ [secByte l tr scale H r j] := by simp [secRow, List.range_succ]
theorem secRow_length (l : List SetD) (tr : List Int) (scale H : Int) (r j : Nat) : (secRow l tr scale H r j).length = j := by simp [secRow]
theorem secText_length (l : List SetD) (tr : List Int) (scale H : Int) (C : Nat) : ∀ i, (secText l tr scale H C i).length = i * (C + 1)
  | 0 => by simp [secText]
  | i + 1 => by
    rw [secText, List.length_append, List.length_append, secText_length l tr scale H C i, secRow_length, Nat.succ_mul]
    simp; omega
theorem join_snoc (x : List UInt8) (r : List (List UInt8)) (y sep : List UInt8) : Lib.join (x :: r ++ [y]) sep = Lib.join (x :: r) sep ++ sep ++ y := by
  rw [List.cons_append, Lib.join_cons, Lib.join_cons]
  simp [Lib.joinTail, List.append_assoc]
/-- the rows with a line's end between them, and one behind the last -/
theorem join_text (l : List SetD) (tr : List Int) (scale H : Int) (C : Nat) : ∀ n, Lib.join ((List.range (n + 1)).map fun r => secRow l tr scale H r C) [10] ++ [10] = secText l tr scale H C (n + 1)
  | 0 => by simp [Lib.join_one, secText]
  | n + 1 => by
    have e : ∀ f : Nat → List UInt8, (List.range (n + 1 + 1)).map f = f 0 :: ((List.range n).map fun r => f (r + 1)) ++ [f (n + 1)] := fun f => by
      rw [List.range_succ, List.map_append, List.range_succ_eq_map]
      simp [Function.comp_def]
    have e1 : ∀ f : Nat → List UInt8, (List.range (n + 1)).map f = f 0 :: ((List.range n).map fun r => f (r + 1)) := fun f => by
      rw [List.range_succ_eq_map]
      simp [Function.comp_def]
    have h1 := join_text l tr scale H C n
    rw [e1] at h1
    rw [e, join_snoc, h1]
    rfl
/-! ### trims -/
def trimOk (l : List SetD) (tr : List Int) (k : Nat) : Bool := decide ((setN l k).low ≤ nth tr k) && decide (nth tr k ≤ (setN l k).high)
def trimsE (l : List SetD) (tr : List Int) : Int := if tr.length = l.length then (if ∀ k, k < tr.length → trimOk l tr k = true then 0 else 2) else 3
theorem trimsE_len {l : List SetD} {tr : List Int} (h : ¬ tr.length = l.length) : trimsE l tr = 3 := by rw [trimsE, if_neg h]
theorem trimsE_bad {l : List SetD} {tr : List Int} {k : Nat} (h : tr.length = l.length) (hk : k < tr.length) (hb : trimOk l tr k = false) : trimsE l tr = 2 := by
  rw [trimsE, if_pos h, if_neg (fun ha => by rw [ha k hk] at hb; cases hb)]
theorem trimsE_ok {l : List SetD} {tr : List Int} (h : tr.length = l.length) (ha : ∀ k, k < tr.length → trimOk l tr k = true) : trimsE l tr = 0 := by
  rw [trimsE, if_pos h, if_pos ha]
theorem trimsE_zero {l : List SetD} {tr : List Int} (h : trimsE l tr = 0) : tr.length = l.length ∧ ∀ k, k < tr.length → trimOk l tr k = true := by
  unfold trimsE at h
  split at h
  · split at h
    · exact ⟨‹_›, ‹_›⟩
    · omega
  · omega
end Go.Proofs.YtliehhnnfpkciaaDoor
