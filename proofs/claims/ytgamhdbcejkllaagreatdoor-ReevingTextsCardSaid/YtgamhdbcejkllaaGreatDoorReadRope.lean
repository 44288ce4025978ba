/- The readings of a rope's holds and of a text's lines, step by step: in plain Lean, for the loops of both parsers. reeving.readRope: the rope that a line's words say. -/
import Derived.Test.YtgamhdbcejkllaaGreatDoorReeveAtoi
import Derived.Test.YtgamhdbcejkllaaGreatDoorReeveNum
import Derived.Test.YtgamhdbcejkllaaGreatDoorReeveOwn
import Derived.Deep.DeepCutAuto
import Derived.Deep.RegionHeld3
namespace Go.Proofs.YtgamhdbcejkllaaGreatDoor
open Go Go.Lib

/-- the holds before word k are read, and are l -/
def HoldsAt (ok : Int → Int → Bool) (w : List (List UInt8)) (k : Nat) (l : List HoldP) : Prop := holdsE ok (w.drop 3) = (holdsE ok (w.drop k)).map fun t => l ++ t
theorem HoldsAt.start (ok : Int → Int → Bool) (w : List (List UInt8)) : HoldsAt ok w 3 [] := by
  unfold HoldsAt
  cases holdsE ok (w.drop 3) <;> rfl
theorem drop_three {w : List (List UInt8)} {k : Nat} {a b c : List UInt8} (ha : w[k]? = some a) (hb : w[k + 1]? = some b) (hc : w[k + 2]? = some c) : w.drop k = a :: b :: c :: w.drop (k + 3) := by
  have step : ∀ {j : Nat} {x : List UInt8}, w[j]? = some x → w.drop j = x :: w.drop (j + 1) := fun {j x} h => by
    obtain ⟨hj, e⟩ := List.getElem?_eq_some_iff.1 h
    rw [List.drop_eq_getElem_cons hj, e]
  rw [step ha, step hb, step hc]
theorem HoldsAt.next {ok : Int → Int → Bool} {w : List (List UInt8)} {k : Nat} {l : List HoldP} {a b c : List UInt8} {h : HoldP} (H : HoldsAt ok w k l) (ha : w[k]? = some a) (hb : w[k + 1]? = some b) (hc : w[k + 2]? = some c) (hh : holdE ok a b c = some h) :
    HoldsAt ok w (k + 3) (l ++ [h]) := by
  unfold HoldsAt at H ⊢
  rw [H, drop_three ha hb hc, holdsE, hh]
  cases holdsE ok (w.drop (k + 3)) with
  | none => rfl
  | some t => simp
theorem HoldsAt.stop {ok : Int → Int → Bool} {w : List (List UInt8)} {k : Nat} {l : List HoldP} {a b c : List UInt8} (H : HoldsAt ok w k l) (ha : w[k]? = some a) (hb : w[k + 1]? = some b) (hc : w[k + 2]? = some c) (hh : holdE ok a b c = none) :
    holdsE ok (w.drop 3) = none := by
  unfold HoldsAt at H
  rw [H, drop_three ha hb hc, holdsE, hh]
  rfl
theorem HoldsAt.done {ok : Int → Int → Bool} {w : List (List UInt8)} {k : Nat} {l : List HoldP} (H : HoldsAt ok w k l) (hk : w.length ≤ k) : holdsE ok (w.drop 3) = some l := by
  unfold HoldsAt at H
  rw [H, List.drop_of_length_le hk, holdsE]
  simp
/-- what a hold's three words say: the ways in which it fails -/
theorem holdE_free {ok : Int → Int → Bool} {b c : List UInt8} {n : Int} {p : Int × Int} (hb : numE b = some n) (hc : fracE ok c = some p) : holdE ok wFree b c = some ⟨[], n, p.1, p.2⟩ := by
  rw [holdE, if_pos (Or.inl rfl), hb, hc]
  simp
theorem holdE_named {ok : Int → Int → Bool} {a b c : List UInt8} {n : Int} {p : Int × Int} (hn : isNameL a = true) (hb : numE b = some n) (hc : fracE ok c = some p) : holdE ok a b c = some ⟨a, n, p.1, p.2⟩ := by
  have hne : a ≠ wFree := fun e => by rw [e, isNameL_free] at hn; cases hn
  rw [holdE, if_pos (Or.inr hn), hb, hc]
  simp [hne]
theorem holdE_noNum {ok : Int → Int → Bool} {a b c : List UInt8} (hb : numE b = none) : holdE ok a b c = none := by
  rw [holdE, hb]
  simp
theorem holdE_noFrac {ok : Int → Int → Bool} {a b c : List UInt8} (hc : fracE ok c = none) : holdE ok a b c = none := by
  rw [holdE, hc]
  cases numE b <;> simp
theorem holdE_noName {ok : Int → Int → Bool} {a b c : List UInt8} (h1 : a ≠ wFree) (h2 : isNameL a = false) : holdE ok a b c = none := by
  rw [holdE, if_neg (by simp [h1, h2])]
/-- a rope's line -/
theorem ropeE_short {ok : Int → Int → Bool} {w : List (List UInt8)} (h : w.length < 6 ∨ w.length % 3 ≠ 0) : ropeE ok w = none := by
  match w with
  | [] => rfl
  | [_] => rfl
  | [_, _] => rfl
  | _ :: _ :: _ :: r =>
    rw [ropeE, if_neg (fun hx => by simp only [List.length_cons] at h; omega)]
theorem ropeE_head {ok : Int → Int → Bool} {w : List (List UInt8)} {a u : List UInt8} (ha : w[1]? = some a) (hu : w[2]? = some u) (h : isNameL a = false ∨ (u ≠ wHauled ∧ u ≠ wFixed)) : ropeE ok w = none := by
  match w with
  | [] => rfl
  | [_] => rfl
  | [_, _] => rfl
  | _ :: _ :: _ :: r =>
    simp only [List.getElem?_cons_succ, List.getElem?_cons_zero, Option.some.injEq] at ha hu
    subst ha
    subst hu
    rw [ropeE, if_neg (fun hx => by
      rcases h with h | h
      · rw [h] at hx; exact absurd hx.2.2.1 (by simp)
      · exact hx.2.2.2.elim h.1 h.2)]
theorem ropeE_holds {ok : Int → Int → Bool} {w : List (List UInt8)} {a u : List UInt8} (h6 : 6 ≤ w.length) (h3 : w.length % 3 = 0) (ha : w[1]? = some a) (hu : w[2]? = some u) (hn : isNameL a = true) (hh : u = wHauled ∨ u = wFixed) :
    ropeE ok w = (holdsE ok (w.drop 3)).map fun l => ⟨a, decide (u = wHauled), l⟩ := by
  match w with
  | [] => simp at h6
  | [_] => simp at h6
  | [_, _] => simp at h6
  | _ :: _ :: _ :: r =>
    simp only [List.getElem?_cons_succ, List.getElem?_cons_zero, Option.some.injEq] at ha hu
    subst ha
    subst hu
    simp only [List.length_cons] at h6 h3
    rw [ropeE, if_pos ⟨by omega, by omega, hn, hh⟩]
    rfl
/-- a line's first word decides -/
theorem lineE_other {ok : Int → Int → Bool} {s : SysP} {w : List (List UInt8)} (h1 : ¬ (w.head? = some wBlock ∧ s.ropes = [])) (h2 : w.head? ≠ some wRope) : lineE ok s w = none := by rw [lineE, if_neg h1, if_neg h2]
theorem lineE_first {ok : Int → Int → Bool} {s : SysP} {w : List (List UInt8)} (h1 : w.head? = some wBlock) (h2 : s.ropes = []) : lineE ok s w = (blockE w).map fun b => { s with blocks := s.blocks ++ [b] } := by rw [lineE, if_pos ⟨h1, h2⟩]
theorem lineE_second {ok : Int → Int → Bool} {s : SysP} {w : List (List UInt8)} (h1 : w.head? = some wRope) : lineE ok s w = (ropeE ok w).map fun r => { s with ropes := s.ropes ++ [r] } := by
  rw [lineE, if_neg (fun h => by rw [h1] at h; have := h.1; simp [wRope, wBlock] at this), if_pos h1]
theorem blockE_long {w : List (List UInt8)} (h : w.length ≠ 3) : blockE w = none := by
  match w with
  | [] => rfl
  | [_] => rfl
  | [_, _] => rfl
  | [_, _, _] => simp at h
  | _ :: _ :: _ :: _ :: _ => rfl
theorem blockE_three {w : List (List UInt8)} {a b : List UInt8} (h : w.length = 3) (ha : w[1]? = some a) (hb : w[2]? = some b) : blockE w = if isNameL a = true then (numE b).map fun n => (a, n) else none := by
  match w with
  | [_, _, _] =>
    simp only [List.getElem?_cons_succ, List.getElem?_cons_zero, Option.some.injEq] at ha hb
    subst ha
    subst hb
    rfl
  | [] => simp at h
  | [_] => simp at h
  | [_, _] => simp at h
  | _ :: _ :: _ :: _ :: _ => simp at h

/-! ### the lines of a text -/
/-- the lines before 'rest' are read, and give s; the next line is the i-th -/
def LinesAt (ok : Int → Int → Bool) (T : List UInt8) (s : SysP) (i : Nat) (rest : List UInt8) : Prop := linesE ok ⟨[], []⟩ 1 (partsOf 10 T) = linesE ok s i (partsOf 10 rest)
theorem LinesAt.start (ok : Int → Int → Bool) (T : List UInt8) : LinesAt ok T ⟨[], []⟩ 1 T := rfl
theorem LinesAt.done {ok : Int → Int → Bool} {T : List UInt8} {s : SysP} {i : Nat} (H : LinesAt ok T s i []) : linesE ok ⟨[], []⟩ 1 (partsOf 10 T) = .ok s := by
  unfold LinesAt at H
  rw [H, partsOf_plain _ (by simp), linesE, if_pos rfl]
theorem LinesAt.open_ {ok : Int → Int → Bool} {T rest : List UInt8} {s : SysP} {i : Nat} (H : LinesAt ok T s i rest) (h0 : rest ≠ []) (h : ∀ c ∈ rest, c ≠ 10) : linesE ok ⟨[], []⟩ 1 (partsOf 10 T) = .error i := by
  unfold LinesAt at H
  rw [H, partsOf_plain _ h, linesE, if_neg h0]
theorem LinesAt.next {ok : Int → Int → Bool} {T l t : List UInt8} {s s' : SysP} {i : Nat} (H : LinesAt ok T s i (l ++ 10 :: t)) (hl : ∀ c ∈ l, c ≠ 10) (h : lineE ok s (partsOf 32 l) = some s') : LinesAt ok T s' (i + 1) t := by
  unfold LinesAt at H ⊢
  rw [H, linesE_cons hl h]
theorem LinesAt.stop {ok : Int → Int → Bool} {T l t : List UInt8} {s : SysP} {i : Nat} (H : LinesAt ok T s i (l ++ 10 :: t)) (hl : ∀ c ∈ l, c ≠ 10) (h : lineE ok s (partsOf 32 l) = none) : linesE ok ⟨[], []⟩ 1 (partsOf 10 T) = .error i := by
  unfold LinesAt at H
  obtain ⟨m, q, e⟩ := partsOf_ne 10 t
  rw [H, partsOf_cut _ _ hl, e, linesE, h]
end Go.Proofs.YtgamhdbcejkllaaGreatDoor
namespace Go.Proofs.YtgamhdbcejkllaaGreatDoor
open Go.RowKit

/-- a rope and whether the words have its form -/
def RopeR (w : World) (ws : List (List UInt8)) (e : Ending) (w' : World) : Prop :=
  ∃ (r : RopeD) (ok : Bool), e = .returned (.tuple #[.agg #[.string r.name, .slice r.holds.A r.holds.l.length r.holds.cap, .bool r.hauled], .bool ok]) ∧ Below w.heap.size w w' ∧ r.ok ∧
    ((ok = true ∧ ropeE fracOk ws = some r.plain ∧ HoldsIn w.heap.size r w') ∨ (ok = false ∧ ropeE fracOk ws = none ∧ r = ⟨⟨#[]⟩, ⟨none, 0, []⟩, false⟩))
set_option maxRecDepth 100000 in
set_option maxHeartbeats 8000000 in
theorem readRope_any (A : Option Addr) (cap : Nat) (LB : List ByteArray) (hsz : ∀ b ∈ LB, b.size ≤ 1000000) (hL : LB.length ≤ 1000000) (hcap : cap ≤ maxLen) (w : World) (ht : TabsT w) (B : Nat) (hB : B ≤ w.heap.size) (hat : SlAt w B 1 strCells ⟨A, cap, LB⟩) :
    Calls Tryz.prog 40 #[.slice A LB.length cap] w (RopeR w (LB.map bs)) := by
  obtain ⟨W, hW, hWs, hWb, hWh⟩ := boxed w (.cells #[.string ⟨#[]⟩, .slice none 0 0, .bool false] 53)
  have hlc := hat.1
  simp only at hlc
  have hlt : w.heap.size < W.heap.size := by omega
  have HT := hide (ht.below hWb)
  have KN := hide fun (s : ByteArray) (hs : s.size ≤ 1000000) (y : After W.heap.size W) => number_any s hs y.val (HT.out.below y.below)
  have KF := hide fun (s : ByteArray) (hs : s.size ≤ 1000000) (y : After W.heap.size W) => ratioParse_any s hs y.val (HT.out.below y.below)
  have KM := hide fun (s : ByteArray) (hs : s.size ≤ 1000000) (y : After W.heap.size W) => Gives.after (x := y) (Nat.le_refl _) (isName_any s y.val (by unfold maxLen; omega))
  have hres := fun (z : After W.heap.size W) => three_all ((z.below.block _ hlt).trans hWh) (.string ⟨#[]⟩) (.slice none 0 0) (.bool false)
  have hfin : ∀ (z : After W.heap.size W) (p q r : Value), Below w.heap.size w (((z.val.setCell ⟨w.heap.size, 0, none⟩ p).setCell ⟨w.heap.size, 1, none⟩ q).setCell ⟨w.heap.size, 2, none⟩ r) := fun z p q r =>
    (((hWb.trans (z.below.mono (by omega))).setCell (p := ⟨w.heap.size, 0, none⟩) (Nat.le_refl _) _).setCell (p := ⟨w.heap.size, 1, none⟩) (Nat.le_refl _) _).setCell (p := ⟨w.heap.size, 2, none⟩) (Nat.le_refl _) _
  have HBAD : Hid (∀ z : After W.heap.size W, ropeE fracOk (LB.map bs) = none → RopeR w (LB.map bs) (.returned (.tuple #[.agg #[.string ⟨#[]⟩, .slice none 0 0, .bool false], .bool false])) (((z.val.setCell ⟨w.heap.size, 0, none⟩ (.string ⟨#[]⟩)).setCell ⟨w.heap.size, 1, none⟩ (.slice none 0 0)).setCell ⟨w.heap.size, 2, none⟩ (.bool false))) := hide fun z h =>
    ⟨⟨⟨#[]⟩, ⟨none, 0, []⟩, false⟩, false, rfl, hfin z _ _ _, ⟨by show (#[] : Array UInt8).size ≤ maxLen; simp, fun h hh => absurd hh (by simp)⟩, Or.inr ⟨rfl, h, rfl⟩⟩
  have HBAD1 : Hid (ropeE fracOk (LB.map bs) = none → RopeR w (LB.map bs) (.returned (.tuple #[.agg #[.string ⟨#[]⟩, .slice none 0 0, .bool false], .bool false])) W) := hide fun h =>
    ⟨⟨⟨#[]⟩, ⟨none, 0, []⟩, false⟩, false, rfl, hWb, ⟨by show (#[] : Array UInt8).size ≤ maxLen; simp, fun h hh => absurd hh (by simp)⟩, Or.inr ⟨rfl, h, rfl⟩⟩
  have HFIN := hide hfin
  have HWH := hide hWh
  have HW := hide hW
  have hget : ∀ k, k < LB.length → ∃ s, LB[k]? = some s ∧ s.size ≤ 1000000 ∧ (LB.map bs)[k]? = some (bs s) := fun k hk => ⟨LB[k], List.getElem?_eq_getElem hk, hsz _ (List.getElem_mem hk), by simp [hk]⟩
  have HGET := hide hget
  have hm := hcap
  unfold maxLen at hm
  have hr0 := hres (After.refl _ _)
  simp only [After.refl] at hr0
  have hr00 := hr0
  simp only [hW] at hr0
  clear hW hWh hget hsz hfin
  by_cases h6 : (LB.length : Int) < 6
  · have HN := hide (show ropeE fracOk (LB.map bs) = none from ropeE_short (Or.inl (by rw [List.length_map]; omega)))
    go_enter Tryz.func40, Tryz.ntmps40
    go_wp2_with fail
    refine bodyPost_ret (by simp [results, Tryz.results40, go_sem, hr0]; try rfl) rfl ?_
    rw [← HW.out]
    exact HBAD1.out HN.out
  by_cases h3 : (LB.length : Int) % 3 = 0
  rotate_left
  · have HN := hide (show ropeE fracOk (LB.map bs) = none from ropeE_short (Or.inr (by rw [List.length_map]; omega)))
    have h32 : ((LB.length : Int).tmod 3 == 0) = false := by rw [beq_eq_false_iff_ne, Int.tmod_eq_emod_of_nonneg (by omega)]; exact h3
    have h33 : ¬ ((LB.length : Int).tmod 3 = 0) := by rw [Int.tmod_eq_emod_of_nonneg (by omega)]; exact h3
    go_enter Tryz.func40, Tryz.ntmps40
    go_wp2_with fail
    refine bodyPost_ret (by simp [results, Tryz.results40, go_sem, hr0]; try rfl) rfl ?_
    rw [← HW.out]
    exact HBAD1.out HN.out
  have h33 : (LB.length : Int).tmod 3 = 0 := by rw [Int.tmod_eq_emod_of_nonneg (by omega)]; exact h3
  obtain ⟨b, off, hA, hb, hce⟩ := hat.2.2 (show 0 < LB.length by omega)
  simp only at hA
  subst hA
  have hE : ∀ (k : Nat) (s : ByteArray), LB[k]? = some s → ∀ y : After W.heap.size W, y.val.cell? ⟨b, off + k, none⟩ = some (.string s) := fun k s hs y => strElem hs (by omega : b < w.heap.size) hce ⟨y.val, hWb.trans (y.below.mono (by omega))⟩
  have HE := hide hE
  have HCE := hide hce
  clear hE hce
  obtain ⟨nm, hx1, hs1, hm1⟩ := HGET.out 1 (by omega)
  obtain ⟨kd, hx2, hs2, hm2⟩ := HGET.out 2 (by omega)
  have hc1 := HE.out 1 nm hx1
  have hc2 := HE.out 2 kd hx2
  have hc10 := hc1 (After.refl _ _)
  simp only [After.refl] at hc10
  simp only [HW.out] at hc10
  have HM1 := hide hm1
  have HM2 := hide hm2
  clear hx1 hx2 hm1 hm2
  have KNM := hide (Gives.first (isName_any nm W (by unfold maxLen; omega)))
  have HAU : ∃ u : Bool, (kd.toList == [104, 97, 117, 108, 101, 100]) = u := ⟨_, rfl⟩
  have HFI : ∃ f : Bool, (kd.toList == [102, 105, 120, 101, 100]) = f := ⟨_, rfl⟩
  have HNA : ∃ n : Bool, isName nm = n := ⟨_, rfl⟩
  obtain ⟨u, hu⟩ := HAU
  obtain ⟨f, hf⟩ := HFI
  obtain ⟨n, hn⟩ := HNA
  have hru : ropeE fracOk (LB.map bs) = if (n && (u || f)) = true then (holdsE fracOk ((LB.map bs).drop 3)).map fun l => ⟨bs nm, u, l⟩ else none := by
    have hu2 : decide (bs kd = wHauled) = u := by
      rw [← hu]
      exact (Bool.beq_eq_decide_eq _ _).symm
    have hf2 : decide (bs kd = wFixed) = f := by
      rw [← hf]
      exact (Bool.beq_eq_decide_eq _ _).symm
    cases hnu : (n && (u || f))
    · rw [if_neg (by simp)]
      refine ropeE_head HM1.out HM2.out ?_
      cases n
      · exact Or.inl hn
      · simp only [Bool.true_and, Bool.or_eq_false_iff] at hnu
        refine Or.inr ⟨fun e => ?_, fun e => ?_⟩
        · rw [decide_eq_true e] at hu2; rw [← hu2] at hnu; cases hnu.1
        · rw [decide_eq_true e] at hf2; rw [← hf2] at hnu; cases hnu.2
    · rw [if_pos rfl]
      rw [Bool.and_eq_true, Bool.or_eq_true] at hnu
      rw [ropeE_holds (by rw [List.length_map]; omega) (by rw [List.length_map]; omega) HM1.out HM2.out (by rw [← hnu.1]; exact hn) (by
        rcases hnu.2 with e | e
        · rw [e] at hu2; exact Or.inl (of_decide_eq_true hu2)
        · rw [e] at hf2; exact Or.inr (of_decide_eq_true hf2)), hu2]
  rw [hn] at KNM
  have HRU := hide hru
  have HN := hide hn
  clear hru hn
  go_enter Tryz.func40, Tryz.ntmps40
  go_upto_region 1 with fail
  go_cut [38] (fun a wx => a = .bool (!(n && (u || f))) ∧ ∃ y : After W.heap.size W, wx = y.val)
  case first =>
    cases n
    · go_wp2_with (go_at_call 35; rw [← HW.out]; refine KNM.out.mono ?_; rintro e w1 ⟨rfl, y, rfl⟩; have hcy := hc2 y)
      go_meet
      exact ⟨rfl, y, rfl⟩
    · cases u
      · cases f
        · go_wp2_with (go_at_call 35; rw [← HW.out]; refine KNM.out.mono ?_; rintro e w1 ⟨rfl, y, rfl⟩; have hcy := hc2 y)
          go_meet
          exact ⟨rfl, y, rfl⟩
        · go_wp2_with (go_at_call 35; rw [← HW.out]; refine KNM.out.mono ?_; rintro e w1 ⟨rfl, y, rfl⟩; have hcy := hc2 y)
          go_meet
          exact ⟨rfl, y, rfl⟩
      · go_wp2_with (go_at_call 35; rw [← HW.out]; refine KNM.out.mono ?_; rintro e w1 ⟨rfl, y, rfl⟩; have hcy := hc2 y)
        go_meet
        exact ⟨rfl, y, rfl⟩
  case rest =>
  obtain ⟨rfl, y, rfl⟩ := hcut
  cases hnu : (n && (u || f))
  · have HN2 := hide (show ropeE fracOk (LB.map bs) = none by rw [HRU.out, hnu]; rfl)
    have hry := hres y
    clear hnu
    go_wp2
    refine bodyPost_ret (by simp [results, Tryz.results40, go_sem, hry]; try rfl) rfl ?_
    exact HBAD.out y HN2.out
  have HRU2 := hide (show ropeE fracOk (LB.map bs) = (holdsE fracOk ((LB.map bs).drop 3)).map fun l => ⟨bs nm, u, l⟩ by rw [HRU.out, hnu]; rfl)
  clear hnu HRU hr0 hr00 hc10 KNM
  have hc1y := hc1 y
  have hc2y := hc2 y
  go_wp2
  have hby : b < y.val.heap.size := by have := y.size; omega
  go_region
  obtain ⟨V, hV⟩ : ∃ V, V = (y.val.alloc (.cells #[.string nm, .slice none 0 0, .bool u] 53)).drew := ⟨_, rfl⟩
  have hVb : Below y.val.heap.size y.val V := by rw [hV]; exact ((Below.refl _ _).alloc (Nat.le_refl _) _).drew
  obtain ⟨rb, hrb⟩ : ∃ rb, rb = y.val.heap.size := ⟨_, rfl⟩
  have hbx : V.heap[rb]? = some (.cells #[.string nm, .slice none 0 0, .bool u] 53 (0, 0)) := by rw [hV, hrb]; exact heap_alloc_new y.val _
  have HST := hide (show RdSt W rb nm u (.slice none 0 0) [] V from ⟨y.below.trans (hVb.mono y.size), by rw [hrb]; exact y.size, own_nil _ _ _ _, hbx⟩)
  have HHA := hide (HoldsAt.start fracOk (LB.map bs))
  rw [← hV, ← hrb]
  clear hc1y hc2y hc1 hc2 hby hbx hVb hV hrb
  have h3N : LB.length % 3 = 0 := by omega
  go_wp2
  go_loopw [5, 6, 7, 8, 9, 10] (fun c _ _ _ _ _ wr => ∃ (k : Nat) (vv : Value) (l : List HoldD), c = .int .i64 k ∧ k = 3 + 3 * l.length ∧ k ≤ LB.length ∧ Hid (RdSt W rb nm u vv l wr) ∧ Hid (HoldsAt fracOk (LB.map bs) k (l.map HoldD.plain)) ∧ Hid (∀ h ∈ l, h.ok)) (fun c _ _ _ _ _ _ => LB.length - (intOf c).toNat)
  case atStart => exact ⟨3, _, [], rfl, rfl, by omega, HST, HHA, hide fun h hh => absurd hh (by simp)⟩
  case round =>
    obtain ⟨k, vv, l, rfl, hkl, hk, st, ha, hok⟩ := hrel
    obtain ⟨X, hX⟩ : ∃ X : After W.heap.size W, X.val = wr := ⟨⟨wr, st.out.bel⟩, rfl⟩
    subst hX
    by_cases hlt : k < LB.length
    · obtain ⟨s0, hx0, hs0, hm0⟩ := HGET.out k (by omega)
      obtain ⟨s1, hx1, hs1, hm1⟩ := HGET.out (k + 1) (by omega)
      obtain ⟨s2, hx2, hs2, hm2⟩ := HGET.out (k + 2) (by omega)
      have hc0 := HE.out k s0 hx0
      have hc1 := HE.out (k + 1) s1 hx1
      have hc2 := HE.out (k + 2) s2 hx2
      have HM0 := hide hm0
      have HM1 := hide hm1
      have HM2 := hide hm2
      have hll : l.length ≤ 1000000 := by omega
      have HKL := hide hkl
      have hk3 : k + 3 ≤ LB.length := by omega
      clear hx0 hx1 hx2 hm0 hm1 hm2 hkl
      go_wp2_with fail
      refine (KN.out s1 hs1 X).mono ?_
      rintro e w1 ⟨n, okn, rfl, hb1, hn1⟩
      obtain ⟨X1, rfl⟩ := After.exists_iff (X.below.trans (hb1.mono X.size))
      have st1 := st.out.more hb1
      have ST1 := hide st1
      have HN1 := hide hn1
      clear st1 hn1 hb1 st
      go_wp2_with fail
      refine (KF.out s2 hs2 X1).mono ?_
      rintro e w2 ⟨num, den, er, rfl, hb2, hf1⟩
      obtain ⟨X2, rfl⟩ := After.exists_iff (X1.below.trans (hb2.mono X1.size))
      have ST2 := hide (ST1.out.more hb2)
      have HF1 := hide hf1
      clear hb2 hf1 ST1
      obtain ⟨Y, hY, hYs, hYb, hYh⟩ := boxed X2.val (.cells #[.int .i64 num, .int .i64 den] 55)
      have hWY : Below W.heap.size W Y := X2.below.trans (hYb.mono X2.size)
      have STY := hide (ST2.out.more hYb)
      have hyc := fun q : After Y.heap.size Y => two_cells ((q.below.block X2.val.heap.size (by omega)).trans hYh)
      have hc0Y := fun q : After Y.heap.size Y => hc0 ⟨q.val, hWY.trans (q.below.mono hWY.size)⟩
      have hrY := fun q : After Y.heap.size Y => hres ⟨q.val, hWY.trans (q.below.mono hWY.size)⟩
      simp only at hc0Y hrY
      have hc00 := hc0Y (After.refl _ _)
      simp only [After.refl] at hc00
      simp only [hY] at hc00
      obtain ⟨fr, hfr⟩ : ∃ fr, (s0.toList == [45]) = fr := ⟨_, rfl⟩
      obtain ⟨nb, hnb⟩ : ∃ nb, isName s0 = nb := ⟨_, rfl⟩
      obtain ⟨hd, hd1, hd2, hd3, hd4⟩ : ∃ hd : HoldD, hd.block = (if fr then ⟨#[]⟩ else s0) ∧ hd.pulls = n ∧ hd.num = num ∧ hd.den = den := ⟨⟨_, _, _, _⟩, rfl, rfl, rfl, rfl⟩
      have hfr2 : decide (bs s0 = wFree) = fr := by rw [← hfr]; exact (Bool.beq_eq_decide_eq _ _).symm
      have HE1 : holdE fracOk (bs s0) (bs s1) (bs s2) = if (okn && (er == 0) && (fr || nb)) = true then some hd.plain else none := by
        cases okn
        · rw [if_neg (by simp)]
          exact holdE_noNum (by rw [HN1.out]; rfl)
        rcases HF1.out with ⟨rfl, h2⟩ | ⟨rfl, h2⟩
        · have h1 : numE (bs s1) = some n := HN1.out
          cases fr
          · cases nb
            · rw [if_neg (by simp)]
              exact holdE_noName (of_decide_eq_false hfr2) hnb
            · rw [if_pos (by simp), holdE_named hnb h1 h2, HoldD.plain, hd1, hd2, hd3, hd4]; rfl
          · rw [if_pos (by simp), of_decide_eq_true hfr2, holdE_free h1 h2, HoldD.plain, hd1, hd2, hd3, hd4]
            simp [bs_mk]
        · rw [if_neg (by simp)]
          exact holdE_noFrac h2
      have HOKH : (okn && (er == 0) && (fr || nb)) = true → hd.ok := fun hh => by
        rw [Bool.and_eq_true, Bool.and_eq_true] at hh
        obtain ⟨⟨rfl, h2⟩, _⟩ := hh
        have h1 := numE_small (show numE (bs s1) = some n from HN1.out)
        rcases HF1.out with ⟨rfl, h3⟩ | ⟨rfl, h3⟩
        · have h4 := fracBound _ _ (fracE_some h3).1
          refine ⟨?_, by rw [hd2]; exact ⟨by omega, by omega⟩, by rw [hd3]; exact ⟨by simp only at h4; omega, by simp only at h4; omega⟩, by rw [hd4]; exact ⟨by simp only at h4; omega, by simp only at h4; omega⟩⟩
          rw [hd1]; unfold maxLen
          split
          · decide
          · omega
        · cases h2
      have HER : Hid (er = 0 ∨ er = 7) := hide (by rcases HF1.out with ⟨h, _⟩ | ⟨h, _⟩ <;> simp [h])
      have HE2 := hide HE1
      have HOKI := hide HOKH
      have KNB := hide (Gives.first (isName_any s0 Y (by unfold maxLen; omega)))
      rw [hnb] at KNB
      have HY := hide hY
      have HNB2 := hide hnb
      have HYB := hide hYb
      clear hY hnb hfr2 HE1 HOKH HF1 HN1 hYh hYb
      go_upto_region 9 with fail
      go_cut [92] (fun a wx => a = .bool (!(okn && (er == 0) && (fr || nb))) ∧ ∃ q : After Y.heap.size Y, wx = q.val)
      case first =>
        cases okn
        · go_wp2_with fail
          go_meet
          exact ⟨rfl, After.refl _ _, HY.out.symm⟩
        · rcases HER.out with rfl | rfl
          · cases fr
            · cases nb
              · go_wp2_with (go_at_call 35; rw [← HY.out]; refine KNB.out.mono ?_; rintro e w1 ⟨rfl, q, rfl⟩)
                go_meet
                exact ⟨rfl, q, rfl⟩
              · go_wp2_with (go_at_call 35; rw [← HY.out]; refine KNB.out.mono ?_; rintro e w1 ⟨rfl, q, rfl⟩)
                go_meet
                exact ⟨rfl, q, rfl⟩
            · go_wp2_with fail
              go_meet
              exact ⟨rfl, After.refl _ _, HY.out.symm⟩
          · go_wp2_with fail
            go_meet
            exact ⟨rfl, After.refl _ _, HY.out.symm⟩
      case rest =>
      obtain ⟨rfl, q, rfl⟩ := hcut
      clear hc00
      cases hgood : (okn && (er == 0) && (fr || nb))
      · have HN := hide (show ropeE fracOk (LB.map bs) = none by
          rw [HRU2.out, ha.out.stop HM0.out HM1.out HM2.out (by rw [HE2.out, hgood]; rfl)]; rfl)
        have hrq := hrY q
        clear hgood
        go_wp2
        refine bodyPost_ret (by simp [results, Tryz.results40, go_sem, hrq]; try rfl) rfl ?_
        exact HBAD.out ⟨q.val, hWY.trans (q.below.mono hWY.size)⟩ HN.out
      · have HHD := hide (HOKI.out hgood)
        have HAN := hide (ha.out.next (h := hd.plain) HM0.out HM1.out HM2.out (by rw [HE2.out, hgood]; rfl))
        clear hgood
        have STQ := hide (STY.out.more q.below)
        have hycq := hyc q
        have hc0q := hc0Y q
        obtain ⟨Z, hZ, hZs, hZb, hZh⟩ := boxed q.val (.cells #[.string hd.block, .int .i64 hd.pulls, .int .i64 hd.num, .int .i64 hd.den] 57)
        obtain ⟨Z0, hZ0, hZs0, hZb0, hZh0⟩ := boxed q.val (.cells #[.string ⟨#[]⟩, .int .i64 n, .int .i64 num, .int .i64 den] 57)
        have hqY : Below Y.heap.size Y Z0 := q.below.trans (hZb0.mono q.size)
        have hc0z := hc0Y ⟨Z0, hqY⟩
        simp only [hZ0] at hc0z
        have hwl : W.heap.size ≤ q.val.heap.size := Nat.le_trans hWY.size q.size
        have HZ := hide hZ
        have HD1 := hide (And.intro hd1 (And.intro hd2 (And.intro hd3 hd4)))
        have HZB := hide hZb
        have HZH := hide hZh
        clear hZ hZ0 hZb0 hZh0 hd1 hd2 hd3 hd4 hZb hZh hyc hc0Y hrY hqY
        go_upto_if 101 with fail
        go_cut [10] (fun a wx => a = .pointer (some ⟨q.val.heap.size, 0, none⟩) ∧ wx = Z)
        case first =>
          cases fr
          · go_wp2_with fail
            go_meet
            obtain ⟨h1, h2, h3, h4⟩ := HD1.out
            exact ⟨rfl, by rw [HZ.out, h1, h2, h3, h4]; rfl⟩
          · go_wp2_with fail
            go_meet
            obtain ⟨h1, h2, h3, h4⟩ := HD1.out
            exact ⟨rfl, by rw [HZ.out, h1, h2, h3, h4]; rfl⟩
        case rest =>
        obtain ⟨rfl, hwx⟩ := hcut
        subst hwx
        have STZ := hide (STQ.out.more HZB.out)
        have hbz := three_cells STZ.out.box
        have hhz := HoldD.boxed (h := hd) HZH.out (Array.getElem?_eq_some_iff.1 HZH.out).1 (After.refl _ _)
        simp only [After.refl] at hhz
        have hrbl := STZ.out.lt
        have hwz : W.heap.size ≤ wc.heap.size := by omega
        clear hZs hZs0
        obtain ⟨A2, cap2, hvv, hvc1, hvc2, _⟩ := own_slice STZ.out.own
        subst hvv
        have hal := (Below.refl wc.heap.size wc).alloc (Nat.le_refl _) (.cells #[.string hd.block, .int .i64 hd.pulls, .int .i64 hd.num, .int .i64 hd.den] 57)
        have HAL := hide hal
        clear hal
        go_wp2_with (at_builtin; refine Hid.out ?_)
        obtain ⟨i1, hj, hy0, hy1, hy2⟩ := info_parts infoHld
        refine Lib.hid ?_
        refine wpList_append_own _ rfl _ _ 51 rfl W.heap.size 57 i1 _ 4 40 Tryz.underlying51 hj hy0 hy1 hy2 rfl (by decide) _ _ _ rfl (STZ.out.own.alloc _) ⟨wc.heap.size, 0, none⟩ 1 1 hd.cells rfl rfl (World.news_of_block (heap_alloc_new wc _)) (fun u hu => by simp [HoldD.cells] at hu; rcases hu with rfl | rfl | rfl | rfl <;> rfl) (by unfold maxLen; omega) (by omega) (by simp; omega) ?_
        intro v3 w3 hown3 hgr3 _
        obtain ⟨hbx3, hst3⟩ := RdSt.append STZ.out HAL.out hown3 hgr3
        obtain ⟨A3, cap3, hv3, _⟩ := own_slice hown3
        subst hv3
        have hb3 := three_cells hbx3
        have hf3 := block_unfrozen hbx3 1
        have HST3 := hide hst3
        have HLK := hide (show k + 3 = 3 + 3 * (l ++ [hd]).length by rw [List.length_append, HKL.out]; simp; omega)
        clear hown3 hgr3 hbx3 hst3 hbz hhz hj hy0 hy1 hy2
        go_wp2
        exact ⟨⟨k + 3, _, l ++ [hd], by go_num, HLK.out, hk3, HST3, hide (by rw [List.map_append]; exact HAN.out), hide (fun h hh => by
          rcases List.mem_append.1 hh with hh | hh
          · exact hok.out h hh
          · rw [List.mem_singleton] at hh; subst hh; exact HHD.out)⟩, by simp [intOf]; omega⟩
    · have hlk : LB.length ≤ k := by omega
      obtain ⟨A3, cap3, hv3, hHI⟩ := st.out.holdsIn (fun e => by rw [e] at hkl; simp at hkl; omega)
      subst hv3
      have hbz := three_cells st.out.box
      have hrz := fun p q r => three_all ((X.below.block _ (by omega : w.heap.size < W.heap.size)).trans HWH.out) p q r
      have HHI := hide hHI
      have HN := hide (show ropeE fracOk (LB.map bs) = some (RopeD.plain ⟨nm, ⟨A3, cap3, l⟩, u⟩) by
        rw [HRU2.out, ha.out.done (by rw [List.length_map]; exact hlk)]; rfl)
      clear hHI
      go_wp2
      refine bodyPost_ret (by simp [results, Tryz.results40, go_sem, hrz]; try rfl) rfl ?_
      refine ⟨⟨nm, ⟨A3, cap3, l⟩, u⟩, true, rfl, HFIN.out X _ _ _, ⟨by show nm.size ≤ maxLen; unfold maxLen; omega, hok.out⟩, Or.inl ⟨rfl, HN.out, ?_⟩⟩
      obtain ⟨g, h1, h2, h3, h4⟩ := HHI.out
      refine ⟨g, h1, by omega, h3.of_block ?_, h4⟩
      have hne : g ≠ w.heap.size := by omega
      rw [RowKit.Below.heap_setCell _ _ _ _ hne, RowKit.Below.heap_setCell _ _ _ _ hne, RowKit.Below.heap_setCell _ _ _ _ hne]
end Go.Proofs.YtgamhdbcejkllaaGreatDoor
