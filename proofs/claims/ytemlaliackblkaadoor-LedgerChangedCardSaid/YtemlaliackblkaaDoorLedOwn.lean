/- Copies of rows that the call makes: slices.Clone at bytes and at logs; slices.Grow and slices.Concat at bytes; the sum; the last place of a blank. -/
import Derived.Test.YtemlaliackblkaaDoorLedNum
import Derived.Lib.AppendZeros
import Derived.Lib.SliceRun
namespace Go.Proofs.YtemlaliackblkaaDoor
open Go.RowKit

theorem infoByte : (Tryd.prog.info? 5).map (fun i => (i.zero, i.size, i.bytes)) = some (some (.int .u8 0), 1, 1) := by kernel_rfl
theorem infoLog : (Tryd.prog.info? 24).map (fun i => (i.zero, i.size, i.bytes)) = some (some (.agg #[.int .i64 0, .string ⟨#[]⟩, .int .i64 0, .int .i64 0]), 4, 40) := by kernel_rfl
theorem infoStr : (Tryd.prog.info? 9).map (fun i => (i.zero, i.size, i.bytes)) = some (some (.string ⟨#[]⟩), 1, 16) := by kernel_rfl
theorem byte_one (l : List UInt8) : ∀ u ∈ l.flatMap byteCells, u.oneCell' = true := fun u hu => by
  obtain ⟨c, _, h⟩ := List.mem_flatMap.1 hu
  simp [byteCells] at h
  subst h; rfl
theorem log_one (l : List LogD) : ∀ u ∈ l.flatMap LogD.cells, u.oneCell' = true := fun u hu => by
  obtain ⟨x, _, h⟩ := List.mem_flatMap.1 hu
  simp [LogD.cells] at h
  rcases h with rfl | rfl | rfl | rfl <;> rfl
/-- the elements of a slice that came in, as news for an append -/
theorem slAt_flat {α : Type} {w : World} {B size cap : Nat} {cells : α → List Value} (hs : ∀ x, (cells x).length = size) {a : Addr} {l : List α} (h : SlAt w B size cells ⟨some a, cap, l⟩) : ∀ q u, (l.flatMap cells)[q]? = some u → w.cell? (a.add q) = some u := fun q u hq => by
  rcases Nat.eq_zero_or_pos l.length with h0 | h0
  · have : l = [] := List.eq_nil_of_length_eq_zero h0
    subst this
    simp at hq
  · obtain ⟨b, off, e, _, hc⟩ := h.2.2 h0
    injection e with e
    subst e
    exact slAt_news hs hc q u hq
theorem slAt_nil {α : Type} {w : World} {B size cap : Nat} {cells : α → List Value} {l : List α} (h : SlAt w B size cells ⟨none, cap, l⟩) : l = [] := by
  rcases Nat.eq_zero_or_pos l.length with h0 | h0
  · exact List.eq_nil_of_length_eq_zero h0
  · obtain ⟨b, off, e, _⟩ := h.2.2 h0
    cases e
set_option maxRecDepth 100000 in
set_option maxHeartbeats 2000000 in
theorem cloneB_any (A : Option Addr) (cap : Nat) (l : List UInt8) (hl : l.length ≤ 140737488355328) (w : World) (B : Nat) (hs : SlAt w B 1 byteCells ⟨A, cap, l⟩) :
    Calls Tryd.prog 29 #[.slice A l.length cap] w fun e w' => ∃ v, e = .returned v ∧ OwnSt 5 1 byteCells w v l w' := by
  obtain ⟨i0, hi, hz0, hz1, hz2⟩ := info_parts infoByte
  have qn : ∀ (w : World) (a : Option Addr) (n c n' c' : Nat), (binOp .eql 22 (.slice a n c) (.slice none n' c')).run Tryd.prog w = .ok (.bool a.isNone) w := fun w a n c n' c' => Lib.run_eql_slice_nil w _ _ a n c n' c' Tryd.underlying22
  cases A with
  | none =>
    have := slAt_nil hs
    subst this
    go_enter Tryd.func29, Tryd.ntmps29
    go_wp2
    go_ret
    exact ⟨_, rfl, OwnSt.start _ _ _ (Below.refl _ _)⟩
  | some a =>
    have HN := hide (slAt_flat byteCells_len hs)
    clear hs
    go_enter Tryd.func29, Tryd.ntmps29
    go_wp2_with (at_builtin; refine wpList_append_own _ rfl _ _ 22 rfl w.heap.size 5 i0 (.int .u8 0) 1 1 Tryd.underlying22 hi hz0 hz1 hz2 rfl (by decide) _ _ _ rfl (World.ownsRow_made w #[] 0 (Nat.le_refl _) (Nat.zero_le _) rfl) a l.length cap (l.flatMap byteCells) rfl (by rw [flat_len byteCells_len]) (fun q u hq => by rw [Lib.cell?_alloc_some _ (HN.out q u hq)]) (byte_one l) (by unfold maxLen; omega) (by omega) (by simp) ?_)
    intro v' w1 hown hgrow _
    go_wp2
    go_ret
    exact ⟨v', rfl, by simpa using hown, ((Below.refl _ w).alloc (Nat.le_refl _) _).grown hgrow (by simp) (by intro k hk; simp [Value.ownBlock] at hk; omega)⟩
set_option maxRecDepth 100000 in
set_option maxHeartbeats 2000000 in
theorem cloneL_any (A : Option Addr) (cap : Nat) (l : List LogD) (hl : l.length ≤ 3000000000) (w : World) (B : Nat) (hs : SlAt w B 4 LogD.cells ⟨A, cap, l⟩) :
    Calls Tryd.prog 28 #[.slice A l.length cap] w fun e w' => ∃ v, e = .returned v ∧ OwnSt 24 4 LogD.cells w v l w' := by
  obtain ⟨i0, hi, hz0, hz1, hz2⟩ := info_parts infoLog
  have qn : ∀ (w : World) (a : Option Addr) (n c n' c' : Nat), (binOp .eql 34 (.slice a n c) (.slice none n' c')).run Tryd.prog w = .ok (.bool a.isNone) w := fun w a n c n' c' => Lib.run_eql_slice_nil w _ _ a n c n' c' Tryd.underlying34
  cases A with
  | none =>
    have := slAt_nil hs
    subst this
    go_enter Tryd.func28, Tryd.ntmps28
    go_wp2
    go_ret
    exact ⟨_, rfl, OwnSt.start _ _ _ (Below.refl _ _)⟩
  | some a =>
    have HN := hide (slAt_flat logCells_len hs)
    clear hs
    go_enter Tryd.func28, Tryd.ntmps28
    go_wp2_with (at_builtin; refine wpList_append_own _ rfl _ _ 34 rfl w.heap.size 24 i0 _ 4 40 Tryd.underlying34 hi hz0 hz1 hz2 rfl (by decide) _ _ _ rfl (World.ownsRow_made w #[] 0 (Nat.le_refl _) (Nat.zero_le _) rfl) a l.length cap (l.flatMap LogD.cells) rfl (by rw [flat_len logCells_len]) (fun q u hq => by rw [Lib.cell?_alloc_some _ (HN.out q u hq)]) (log_one l) (by unfold maxLen; omega) (by omega) (by simp) ?_)
    intro v' w1 hown hgrow _
    go_wp2
    go_ret
    exact ⟨v', rfl, by simpa using hown, ((Below.refl _ w).alloc (Nat.le_refl _) _).grown hgrow (by simp) (by intro k hk; simp [Value.ownBlock] at hk; omega)⟩
set_option maxRecDepth 100000 in
set_option maxHeartbeats 2000000 in
theorem sum_any (A : Option Addr) (cap : Nat) (l : List UInt8) (w : World) (B : Nat) (hB : B ≤ w.heap.size) (hs : SlAt w B 1 byteCells ⟨A, cap, l⟩) :
    Calls Tryd.prog 21 #[.slice A l.length cap] w (Gives w (.int .i64 (sumE l))) := by
  have hm : cap ≤ 9223372036854775807 := hs.2.1
  have hlc : l.length ≤ cap := hs.1
  have HS := hide hs
  clear hs
  go_enter Tryd.func21, Tryd.ntmps21
  go_wp2
  go_loopw [3, 8] (fun s v wr => ∃ k : Nat, v = .int .i64 k ∧ s = .int .i64 (sumE (l.take k)) ∧ k ≤ l.length ∧ ∃ x : After w.heap.size w, wr = x.val) (fun _ v _ => l.length - (intOf v).toNat)
  case atStart => exact ⟨0, rfl, rfl, Nat.zero_le _, After.refl _ _, rfl⟩
  case round =>
    obtain ⟨k, rfl, rfl, hk, x, rfl⟩ := hrel
    by_cases hlt : k < l.length
    · obtain ⟨b, off, hA, hb, hcell⟩ := HS.out.2.2 (show 0 < l.length by omega)
      simp only at hA
      subst hA
      have hx : l[k]? = some l[k] := List.getElem?_eq_getElem hlt
      have he := fun x : After w.heap.size w => byteElem hx (show b < w.heap.size by omega) hcell x
      have HNX := hide (sumE_next hx)
      have hsl := sumE_lt (l.take k)
      have hcb := byte_lt l[k]
      have hrem := sum_rem (sumE (l.take k)) l[k]
      obtain ⟨s, hs⟩ : ∃ s, s = sumE (l.take k) := ⟨_, rfl⟩
      obtain ⟨c, hc⟩ : ∃ c, c = l[k] := ⟨_, rfl⟩
      rw [← hs] at HNX hsl hrem ⊢
      rw [← hc] at HNX he hcb hrem
      have HREM := hide hrem
      clear hs hc hcell hx hrem
      go_wp2
      exact ⟨⟨k + 1, by go_num, by rw [HNX.out, ← HREM.out], by omega, _, rfl⟩, by simp [intOf]; omega⟩
    · have hkl : k = l.length := by omega
      subst hkl
      rw [List.take_length]
      go_wp2
      go_ret
      exact Gives.mk rfl x.below
/-- the last place of a blank -/
def LastB (l : List UInt8) (i : Int) : Prop := (i = -1 ∧ ∀ (j : Nat) (c : UInt8), l[j]? = some c → c ≠ 32) ∨ ∃ k : Nat, i = k ∧ l[k]? = some 32 ∧ ∀ (j : Nat) (c : UInt8), k < j → l[j]? = some c → c ≠ 32
theorem LastB.head {h d : List UInt8} {i : Int} (hb : LastB (h ++ d) i) (hl : ∃ t, h = t ++ [32]) (hd : ∀ c ∈ d, c ≠ 32) : i = (h.length : Int) - 1 := by
  obtain ⟨t, rfl⟩ := hl
  have h1 : ((t ++ [32]) ++ d)[t.length]? = some 32 := by simp
  rcases hb with ⟨_, hn⟩ | ⟨k, rfl, hk, hn⟩
  · exact absurd rfl (hn t.length 32 h1)
  · have h2 : ¬ k < t.length := fun hlt => hn t.length 32 hlt h1 rfl
    have h3 : ¬ t.length < k := fun hlt => by
      rw [List.getElem?_append_right (by simp; omega)] at hk
      exact hd 32 (List.mem_of_getElem? hk) rfl
    simp; omega
set_option maxRecDepth 100000 in
set_option maxHeartbeats 2000000 in
theorem lastIn_any (A : Option Addr) (cap : Nat) (l : List UInt8) (w : World) (B : Nat) (hB : B ≤ w.heap.size) (hs : SlAt w B 1 byteCells ⟨A, cap, l⟩) :
    Calls Tryd.prog 57 #[.slice A l.length cap, .int .u8 32] w fun e w' => ∃ i : Int, e = .returned (.int .i64 i) ∧ LastB l i ∧ Below w.heap.size w w' := by
  have hm : cap ≤ 9223372036854775807 := hs.2.1
  have hlc : l.length ≤ cap := hs.1
  have HS := hide hs
  clear hs
  go_enter Tryd.func57, Tryd.ntmps57
  go_wp2
  go_loopw [5] (fun v wr => ∃ k : Nat, v = .int .i64 ((k : Int) - 1) ∧ k ≤ l.length ∧ Hid (∀ j c, k ≤ j → l[j]? = some c → c ≠ 32) ∧ ∃ x : After w.heap.size w, wr = x.val) (fun v _ => (intOf v + 1).toNat)
  case atStart => exact ⟨l.length, rfl, Nat.le_refl _, hide (fun j c hj hc => absurd (List.getElem?_eq_some_iff.1 hc).1 (by omega)), After.refl _ _, rfl⟩
  case round =>
    obtain ⟨k, rfl, hk, hall, x, rfl⟩ := hrel
    cases k with
    | zero =>
      have HF := hide (show LastB l (-1) from Or.inl ⟨rfl, fun j c hc => hall.out j c (Nat.zero_le _) hc⟩)
      go_wp2
      go_ret
      exact ⟨_, rfl, HF.out, x.below⟩
    | succ k =>
      obtain ⟨b, off, hA, hb, hcell⟩ := HS.out.2.2 (show 0 < l.length by omega)
      simp only at hA
      subst hA
      have hlt : k < l.length := by omega
      have hx : l[k]? = some l[k] := List.getElem?_eq_getElem hlt
      have he := fun x : After w.heap.size w => byteElem hx (show b < w.heap.size by omega) hcell x
      have hin : (k : Int) < (l.length : Int) := by omega
      have hi0 : (0 : Int) ≤ (k : Int) := by omega
      have HX := hide hx
      obtain ⟨c, hc⟩ : ∃ c, c = l[k] := ⟨_, rfl⟩
      rw [← hc] at he HX
      have ek : ((k + 1 : Nat) : Int) - 1 = (k : Int) := by omega
      rw [ek]
      clear hc hcell hx ek
      by_cases h32 : c = 32
      · have HF := hide (show LastB l (k : Int) from Or.inr ⟨k, rfl, h32 ▸ HX.out, fun j d hj hd => hall.out j d (by omega) hd⟩)
        have hq : ((c.toNat : Int) == 32) = true := by rw [h32]; rfl
        clear h32
        go_wp2
        go_ret
        exact ⟨_, rfl, HF.out, x.below⟩
      · have hq : ((c.toNat : Int) == 32) = false := by
          rw [beq_eq_false_iff_ne]
          intro e
          exact h32 (UInt8.toNat_inj.1 (by have : c.toNat = 32 := by omega
                                           rw [this]; rfl))
        have HN := hide (show ∀ j d, k ≤ j → l[j]? = some d → d ≠ 32 from fun j d hj hd => by
          by_cases e : j = k
          · subst e; rw [HX.out] at hd; injection hd with hd; rw [← hd]; exact h32
          · exact hall.out j d (by omega) hd)
        clear h32
        go_wp2
        exact ⟨⟨k, by go_num, by omega, HN, _, rfl⟩, by simp [intOf]⟩
theorem lastB_any (A : Option Addr) (cap : Nat) (l : List UInt8) (w : World) (B : Nat) (hB : B ≤ w.heap.size) (hs : SlAt w B 1 byteCells ⟨A, cap, l⟩) :
    Calls Tryd.prog 39 #[.slice A l.length cap, .int .u8 32] w fun e w' => ∃ i : Int, e = .returned (.int .i64 i) ∧ LastB l i ∧ Below w.heap.size w w' := by
  have KL := hide (lastIn_any A cap l w B hB hs)
  clear hs
  go_enter Tryd.func39, Tryd.ntmps39
  go_wp2_with fail
  refine KL.out.mono ?_
  rintro e w1 ⟨i, rfl, hi, hb⟩
  go_wp2
  go_ret
  exact ⟨_, rfl, hi, hb⟩
end Go.Proofs.YtemlaliackblkaaDoor
