/- The reference's Record and Encode. -/
import Derived.Test.YtemlaliackblkaaDoorLedApp
import Derived.Test.YtemlaliackblkaaDoorDecimal
namespace Go.Proofs.YtemlaliackblkaaDoor
open Go.RowKit

theorem strCells_bs (s : ByteArray) : Lib.strCells s = (bs s).flatMap byteCells := by
  rw [Lib.strCells, bs_data]
  induction s.data.toList with
  | nil => rfl
  | cons c l ih => rw [List.map_cons, List.flatMap_cons, ih]; rfl
theorem OwnSt.appendStr {W y z u : World} {t : TypeId} {v v' : Value} {l : List UInt8} {s : ByteArray} (h : OwnSt t 1 byteCells W v l z) (hu : Below z.heap.size z u) (hown : y.ownsRow W.heap.size t 1 v' (l.length + s.size) (l.flatMap byteCells ++ Lib.strCells s)) (hgr : u.grownBy y v.ownBlock) : OwnSt t 1 byteCells W v' (l ++ bs s) y := by
  rw [strCells_bs, ← bs_length] at hown
  exact h.append hu hown hgr
set_option maxRecDepth 100000 in
set_option maxHeartbeats 8000000 in
theorem refRecord_any (A : Option Addr) (cap : Nat) (l : List UInt8) (hA : A = none → cap = 0) (hl : l.length ≤ 1000000000) (x : LogD) (hx : x.ok) (hr : x.rope.size ≤ 1000) (w : World) (B : Nat) (hB : B ≤ w.heap.size) (hs : SlAt w B 1 byteCells ⟨A, cap, l⟩) :
    Calls Tryd.prog 32 #[.slice A l.length cap, .agg #[.int .i64 x.day, .string x.rope, .int .i64 x.kind, .int .i64 x.runs]] w (Gives w (.string (recB l x))) := by
  obtain ⟨i1, hi1, hy0, hy1, hy2⟩ := info_parts infoByte
  have HI1 := hide (And.intro hi1 (And.intro hy0 (And.intro hy1 hy2)))
  obtain ⟨W, hW, hWs, hWb, hWh⟩ := boxed w (.cells #[.int .i64 x.day, .string x.rope, .int .i64 x.kind, .int .i64 x.runs] 24)
  have hc := fun y : After W.heap.size W => LogD.boxed hWh (by omega) y
  have HBD := hide fun (u : World) (hu : Below W.heap.size W u) => (hWb.trans (hu.mono (by omega)) : Below w.heap.size w u)
  have KI := hide fun (m : Int) (hm : I64 m) (y : After W.heap.size W) => Gives.after (x := y) (Nat.le_refl _) (refDecimal_any m hm y.val)
  have HS := hide (fun (u : World) (hu : Below W.heap.size W u) => ((hs.to (hWb.mono hB) (show B ≤ W.heap.size by omega)).to hu (hu.size) : SlAt u u.heap.size 1 byteCells ⟨A, cap, l⟩))
  have YR : W = (After.refl W.heap.size W).val := rfl
  have HW := hide hW
  have e1 : ∀ m, numB m = itoaB m := fun _ => rfl
  simp only [e1] at KI
  have z1 : (itoaB x.day).size ≤ 21 := itoa_size _ hx.day
  have z2 : (itoaB x.kind).size ≤ 21 := itoa_size _ hx.kind
  have z3 : (itoaB x.runs).size ≤ 21 := itoa_size _ hx.runs
  have HOK := hide hx
  have HZH := hide (headB_size x hx)
  have HHB := hide (show headB x = itoaB x.day ++ ⟨#[32]⟩ ++ x.rope ++ ⟨#[32]⟩ ++ itoaB x.kind ++ ⟨#[32]⟩ ++ itoaB x.runs ++ ⟨#[32]⟩ from rfl)
  have HRB := hide (show recB l x = headB x ++ itoaB (sumE (l ++ bs (headB x))) ++ ⟨#[10]⟩ by rw [bs_headB]; rfl)
  have HAA := hide hA
  clear hW hWs hWh hWb hs e1 hx hi1 hy0 hy1 hy2 hA
  go_enter Tryd.func32, Tryd.ntmps32
  go_wp2_with fail
  rw [← HW.out, YR]
  refine wp_region_after (After.refl _ _) (by kernel_rfl) (by kernel_rfl) ?_
  repeat (go_big_quiet_step (first
    | (go_at_call_of 49 x.day; exact KI.out x.day HOK.out.day _)
    | (go_at_call_of 49 x.kind; exact KI.out x.kind HOK.out.kind _)
    | (go_at_call_of 49 x.runs; exact KI.out x.runs HOK.out.runs _)))
  refine wpQuiet_nil ?_
  intro z
  rw [← HHB.out]
  obtain ⟨h, hh⟩ : ∃ h, h = headB x := ⟨_, rfl⟩
  have hhs := HZH.out
  rw [← hh] at HRB hhs ⊢
  have HZB := hide z.below
  clear HHB HZH hh YR
  have HST0 := hide (show OwnSt 5 1 byteCells W (.slice (some ⟨z.val.heap.size, 0, none⟩) 0 0) [] (z.val.alloc (.cells #[] 5)) from
    ⟨Joins.ownsRow_le (by simpa using World.ownsRow_made z.val #[] 0 (Nat.le_refl _) (Nat.zero_le _) rfl) z.size, z.below.alloc z.size _⟩)
  have hrx := hr
  cases A with
  | none =>
    have hlz := slAt_nil (HS.out _ (Below.refl _ _))
    have hcz := HAA.out rfl
    subst hlz hcz
    simp only [List.length_nil]
    have HZ2 := hide HST0.out
    go_wp2_with (at_builtin; first
      | refine wpList_append_own_none rfl _ _ 22 rfl W.heap.size 5 i1 1 Tryd.underlying22 HI1.out.1 _ _ _ rfl HST0.out.own rfl ?_
      | refine Lib.wpList_append_own_string _ rfl _ _ 22 9 rfl W.heap.size 5 i1 Tryd.underlying22 Tryd.underlying9 HI1.out.1 HI1.out.2.1 HI1.out.2.2.1 HI1.out.2.2.2 _ _ _ rfl HZ2.out.own h rfl (by have : ([] : List UInt8).length = 0 := rfl; unfold maxLen; omega) (by have : ([] : List UInt8).length = 0 := rfl; omega) HZ2.out.bel.size ?_)
    intro v3 w3 hown3 hgr3 _
    have HZ3 := hide (OwnSt.appendStr (s := h) HZ2.out (Below.refl _ _) (by rw [List.flatMap_nil, List.nil_append, List.length_nil, Nat.zero_add]; exact hown3) hgr3)
    clear hown3 hgr3
    obtain ⟨lh, hlh⟩ : ∃ lh, lh = ([] : List UInt8) ++ bs h := ⟨_, rfl⟩
    rw [← hlh] at HZ3 HRB
    obtain ⟨A3, cap3, rfl, hs3⟩ := HZ3.out.slAt byteCells_len
    have KS := hide (Gives.first (refSum_any A3 cap3 lh w3 w3.heap.size (Nat.le_refl _) hs3))
    obtain ⟨S, hS⟩ : ∃ S : Int, S = (sumE lh : Nat) := ⟨_, rfl⟩
    have S64 := hide (show I64 S by rw [hS]; exact sum64 _)
    rw [← hS] at KS HRB
    have zs : (itoaB S).size ≤ 21 := itoa_size _ S64.out
    have HBZ := hide HZ3.out.bel
    clear hs3 hS HZ3 HZ2 hlh
    go_wp2_with fail
    refine KS.out.mono ?_
    rintro e w4 ⟨rfl, y4, rfl⟩
    have HB4 := hide (HBZ.out.trans (y4.below.mono HBZ.out.size) : Below W.heap.size W y4.val)
    go_wp2_with fail
    refine (KI.out S S64.out ⟨y4.val, HB4.out⟩).mono ?_
    rintro e w5 ⟨rfl, q, rfl⟩
    go_wp2_with fail
    go_ret
    refine Gives.mk (by rw [HRB.out]; simp) (HBD.out _ q.below)
  | some a =>
    go_wp2_with (at_builtin; refine wpList_append_own _ rfl _ _ 22 rfl W.heap.size 5 i1 (.int .u8 0) 1 1 Tryd.underlying22 HI1.out.1 HI1.out.2.1 HI1.out.2.2.1 HI1.out.2.2.2 rfl (by decide) _ _ _ rfl HST0.out.own a l.length cap (l.flatMap byteCells) rfl (by rw [flat_len byteCells_len]) (slAt_flat byteCells_len (HS.out _ HST0.out.bel)) (byte_one l) (by simp only [List.length_nil]; unfold maxLen; omega) (by simp only [List.length_nil]; omega) HST0.out.bel.size ?_)
    intro v2 w2 hown2 hgr2 _
    have HZ2 := hide (OwnSt.append (ls := l) HST0.out (Below.refl _ _) (by rw [List.flatMap_nil, List.nil_append, List.length_nil, Nat.zero_add]; exact hown2) hgr2)
    rw [List.nil_append] at HZ2
    clear hown2 hgr2
    go_wp2_with (at_builtin; refine Lib.wpList_append_own_string _ rfl _ _ 22 9 rfl W.heap.size 5 i1 Tryd.underlying22 Tryd.underlying9 HI1.out.1 HI1.out.2.1 HI1.out.2.2.1 HI1.out.2.2.2 _ _ _ rfl HZ2.out.own h rfl (by unfold maxLen; omega) (by omega) HZ2.out.bel.size ?_)
    intro v3 w3 hown3 hgr3 _
    have HZ3 := hide (OwnSt.appendStr HZ2.out (Below.refl _ _) hown3 hgr3)
    clear hown3 hgr3
    obtain ⟨lh, hlh⟩ : ∃ lh, lh = l ++ bs h := ⟨_, rfl⟩
    rw [← hlh] at HZ3 HRB
    obtain ⟨A3, cap3, rfl, hs3⟩ := HZ3.out.slAt byteCells_len
    have KS := hide (Gives.first (refSum_any A3 cap3 lh w3 w3.heap.size (Nat.le_refl _) hs3))
    obtain ⟨S, hS⟩ : ∃ S : Int, S = (sumE lh : Nat) := ⟨_, rfl⟩
    have S64 := hide (show I64 S by rw [hS]; exact sum64 _)
    rw [← hS] at KS HRB
    have zs : (itoaB S).size ≤ 21 := itoa_size _ S64.out
    have HBZ := hide HZ3.out.bel
    clear hs3 hS HZ3 HZ2 hlh
    go_wp2_with fail
    refine KS.out.mono ?_
    rintro e w4 ⟨rfl, y4, rfl⟩
    have HB4 := hide (HBZ.out.trans (y4.below.mono HBZ.out.size) : Below W.heap.size W y4.val)
    go_wp2_with fail
    refine (KI.out S S64.out ⟨y4.val, HB4.out⟩).mono ?_
    rintro e w5 ⟨rfl, q, rfl⟩
    go_wp2_with fail
    go_ret
    refine Gives.mk (by rw [HRB.out]; simp) (HBD.out _ q.below)
set_option maxRecDepth 100000 in
set_option maxHeartbeats 8000000 in
theorem refEncode_any (A : Option Addr) (cap : Nat) (l : List LogD) (hv : logOk l = true) (w : World) (B : Nat) (hB : B ≤ w.heap.size) (hs : SlAt w B 4 LogD.cells ⟨A, cap, l⟩) :
    Calls Tryd.prog 17 #[.slice A l.length cap] w fun e w' => ∃ v, e = .returned v ∧ BRes w v (encE l) w' := by
  obtain ⟨i1, hi1, hy0, hy1, hy2⟩ := info_parts infoByte
  have HI1 := hide (And.intro hi1 (And.intro hy0 (And.intro hy1 hy2)))
  have hlc : l.length ≤ cap := hs.1
  have hlm : cap ≤ 9223372036854775807 := hs.2.1
  have hl1000 := log_short hv
  have HS := hide hs
  have HV := hide hv
  clear hs hi1 hy0 hy1 hy2 hv
  go_enter Tryd.func17, Tryd.ntmps17
  go_wp2
  go_loopw [3, 4] (fun u v wr => ∃ k : Nat, v = .int .i64 k ∧ k ≤ l.length ∧ Hid (OwnSt 5 1 byteCells w u (encE (l.take k)) wr)) (fun _ v _ => l.length - (intOf v).toNat)
  case atStart => exact ⟨0, rfl, Nat.zero_le _, hide (OwnSt.start _ _ _ (Below.refl _ _))⟩
  case round =>
    obtain ⟨k, rfl, hk, HST⟩ := hrel
    by_cases hlt : k < l.length
    · obtain ⟨b, off, hA, hbB, hcell⟩ := HS.out.2.2 (show 0 < l.length by omega)
      simp only at hA
      subst hA
      have hx : l[k]? = some l[k] := List.getElem?_eq_getElem hlt
      have he := LogD.elem hx (show b < w.heap.size by omega) hcell ⟨wr, HST.out.bel⟩
      simp only at he
      have HNX := hide (encE_next hx)
      have hsm := small_of_log HV.out l[k] (List.getElem_mem hlt)
      have hlen := enc_short HV.out k
      have hok := ok_of_small hsm
      have hns := name_short hsm
      obtain ⟨x, hxx⟩ : ∃ x, x = l[k] := ⟨_, rfl⟩
      rw [← hxx] at he HNX hok hns hsm
      obtain ⟨out, hout⟩ : ∃ out, out = encE (l.take k) := ⟨_, rfl⟩
      rw [← hout] at hlen HST HNX
      obtain ⟨A1, cap1, rfl, hA1, hs1⟩ := HST.out.slAt2 byteCells_len
      have hrl := rec_short out hsm
      have HRE := hide (show bs (recB out x) = recE out x from bs_recB out x)
      have hrz : (recB out x).size ≤ 109 := by rw [← bs_length, bs_recB]; exact hrl
      have KR := hide (Gives.first (refRecord_any A1 cap1 out hA1 (by omega) x hok (by omega) wr wr.heap.size (Nat.le_refl _) hs1))
      obtain ⟨R, hR⟩ : ∃ R, R = recB out x := ⟨_, rfl⟩
      rw [← hR] at KR HRE hrz
      clear hcell hx hxx hs1 hsm hok hout hR hrl
      go_wp2_with fail
      refine KR.out.mono ?_
      rintro e w2 ⟨rfl, y, rfl⟩
      have HS2 := hide (HST.out.more y.below)
      go_wp2_with (at_builtin; refine Lib.wpList_append_own_string _ rfl _ _ 22 9 rfl w.heap.size 5 i1 Tryd.underlying22 Tryd.underlying9 HI1.out.1 HI1.out.2.1 HI1.out.2.2.1 HI1.out.2.2.2 _ _ _ rfl HS2.out.own R rfl (by unfold maxLen; omega) (by omega) HS2.out.bel.size ?_)
      intro v6 w6 hown6 hgr6 _
      have HN6 := hide (OwnSt.appendStr (s := R) HS2.out (Below.refl _ _) hown6 hgr6)
      rw [HRE.out, ← HNX.out] at HN6
      clear hown6 hgr6
      go_wp2
      exact ⟨⟨k + 1, by go_num, by omega, HN6⟩, by simp [intOf]; omega⟩
    · have hkl : k = l.length := by omega
      subst hkl
      rw [List.take_length] at HST
      go_wp2
      go_ret
      exact ⟨_, rfl, BRes.of_own HST.out⟩
end Go.Proofs.YtemlaliackblkaaDoor
