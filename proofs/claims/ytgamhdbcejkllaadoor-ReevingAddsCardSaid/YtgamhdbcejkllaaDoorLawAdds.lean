/- loftblocklaw10.ReevingAdds: the walk of the law. -/
import Derived.Test.YtgamhdbcejkllaaDoorReeveAwake
namespace Go.Proofs.YtgamhdbcejkllaaDoor
open Go.RowKit

theorem pullOk_end {bl : List BlockD} {h : HoldD} (hp : pullOk bl h true = true) : -1 ≤ h.pulls ∧ h.pulls ≤ 1 := by
  unfold pullOk at hp
  split at hp
  · simp at hp; omega
  · split at hp
    · cases hp
    · simp at hp; omega
theorem pullIdx_cons (bl : List BlockD) (q : Nat) (h : HoldD) (l : List HoldD) : pullIdx bl q (h :: l) = (if findB bl h.block = (q : Int) then h.pulls else 0) + pullIdx bl q l := by simp [pullIdx]
theorem tail_bound (bl : List BlockD) (q n : Nat) : ∀ (l : List HoldD) (i : Nat), i + l.length = n → 1 ≤ i → l ≠ [] → (∀ j h, l[j]? = some h → pullOk bl h (isEnd n (i + j)) = true) → -(2 * (l.length : Int) - 1) ≤ pullIdx bl q l ∧ pullIdx bl q l ≤ 2 * (l.length : Int) - 1
  | [], _, _, _, h, _ => absurd rfl h
  | [h], i, hn, _, _, hp => by
    have h1 := hp 0 h rfl
    have e : isEnd n (i + 0) = true := by simp at hn; simp [isEnd, hn]
    rw [e] at h1
    have h2 := pullOk_end h1
    rw [pullIdx_cons]
    have e0 : pullIdx bl q [] = 0 := by simp [pullIdx]
    rw [e0]
    simp only [List.length_cons, List.length_nil]
    split <;> omega
  | h :: g :: l, i, hn, hi, _, hp => by
    have h1 := pullOk_small (hp 0 h rfl)
    have h2 := tail_bound bl q n (g :: l) (i + 1) (by simp only [List.length_cons] at hn ⊢; omega) (by omega) (by simp) (fun j x hx => by rw [Nat.add_assoc, Nat.add_comm 1 j]; exact hp (j + 1) x (by simpa using hx))
    rw [pullIdx_cons]
    simp only [List.length_cons] at h2 ⊢
    split <;> omega
theorem rope_bound {bl : List BlockD} {r : RopeD} (h : ropeOk bl r = true) (q : Nat) : -(2 * ((r.holds.l.length : Int) - 2) + 2) ≤ pullIdx bl q r.holds.l ∧ pullIdx bl q r.holds.l ≤ 2 * ((r.holds.l.length : Int) - 2) + 2 := by
  obtain ⟨h2, h10, hp⟩ := ropeOk_parts h
  have hp2 : ∀ j y, r.holds.l[j]? = some y → pullOk bl y (isEnd r.holds.l.length j) = true := fun j y hy => by
    have := hp j y hy
    rw [holdOk, Bool.and_eq_true] at this
    exact this.2
  generalize r.holds.l = l at *
  match l, h2, hp2 with
  | g :: f :: t, _, hp2 =>
    have h1 := pullOk_end (by have := hp2 0 g rfl; rwa [show isEnd (g :: f :: t).length 0 = true from rfl] at this)
    have h3 := tail_bound bl q (g :: f :: t).length (f :: t) 1 (by simp only [List.length_cons]; omega) (Nat.le_refl _) (by simp) (fun j x hx => by rw [Nat.add_comm 1 j]; exact hp2 (j + 1) x (by simpa using hx))
    rw [pullIdx_cons]
    simp only [List.length_cons] at h3 ⊢
    split <;> omega
theorem matF_bound {s : SysD} (h : sysOk s = true) {k : Nat} {r : RopeD} (hk : s.ropes.l[k]? = some r) (i : Nat) : -(2 * ((r.holds.l.length : Int) - 2) + 2) ≤ matF s.blocks.l s.ropes.l i k ∧ matF s.blocks.l s.ropes.l i k ≤ 2 * ((r.holds.l.length : Int) - 2) + 2 := by
  rw [matF, hk]
  exact rope_bound (ropeOk_of h (List.mem_of_getElem? hk)) i
theorem findB_self {s : SysD} (h : sysOk s = true) {i : Nat} {b : BlockD} (hb : s.blocks.l[i]? = some b) : findB s.blocks.l b.name = (i : Int) := by
  have := (sysOk_parts h).2.1 i b hb
  rw [blockAt, Bool.and_eq_true, Bool.and_eq_true] at this
  exact of_decide_eq_true this.1.2
theorem partsV_self {s : SysD} (h : sysOk s = true) {i : Nat} {b : BlockD} (hb : s.blocks.l[i]? = some b) : partsV s b.name = .tuple #[.int .i64 (rowTo (matF s.blocks.l s.ropes.l) i s.ropes.l.length), .int .i64 0] := by
  rw [partsV, findB_self h hb, if_neg (by omega), Int.toNat_natCast]

set_option maxRecDepth 100000 in
set_option maxHeartbeats 8000000 in
theorem reevingAdds_any (s : SysD) (hok : s.ok) (w : World) (ht : Tabs w) (B : Nat) (hB : B ≤ w.heap.size) (hat : SysD.at_ w B s) :
    Calls Tryd.prog 3 #[.agg #[.slice s.blocks.A s.blocks.l.length s.blocks.cap, .slice s.ropes.A s.ropes.l.length s.ropes.cap]] w (Gives w (.bool true)) := by
  obtain ⟨W, hW, hWs, hWb, hWh⟩ := boxed w (.cells #[.slice s.blocks.A s.blocks.l.length s.blocks.cap, .slice s.ropes.A s.ropes.l.length s.ropes.cap] 25)
  have hc := fun y : After W.heap.size W => SysD.boxed hWh (by omega) y
  have hbd : ∀ y : After W.heap.size W, Below w.heap.size w y.val := fun y => hWb.trans (y.below.mono (by omega))
  have hatW : ∀ v : World, Below W.heap.size W v → SysD.at_ v W.heap.size s := fun v hv => (hat.to (hWb.mono hB) (by omega)).to hv (Nat.le_refl _)
  have KA := hide (Gives.first (awake10 W (ht.below hWb)))
  have KR := hide fun y : After W.heap.size W => ready_any s hok y.val W.heap.size y.size (hatW y.val y.below)
  have HW := hide hW
  have HBD := hide hbd
  by_cases hv : sysOk s = true
  · obtain ⟨⟨hR1, hR6, hC1, hC6⟩, _, hrl⟩ := sysOk_parts hv
    have KM := hide fun y : After W.heap.size W => matrix_good s hok hv y.val W.heap.size y.size (hatW y.val y.below)
    have KP := hide fun (v : World) (hv' : Below W.heap.size W v) (nm : ByteArray) => parts_good s nm hok hv v W.heap.size hv'.size (hatW v hv')
    have HS := hide (matF_small hv)
    have HMB := hide (fun (k : Nat) (r : RopeD) hk i => matF_bound hv (k := k) (r := r) hk i)
    have HPV := hide (fun (i : Nat) (b : BlockD) hb => partsV_self hv (i := i) (b := b) hb)
    have HRL := hide (show ∀ r ∈ s.ropes.l, 2 ≤ r.holds.l.length ∧ r.holds.l.length ≤ 10 from fun r hr => ⟨(ropeOk_parts (ropeOk_of hv hr)).1, (ropeOk_parts (ropeOk_of hv hr)).2.1⟩)
    have hlcb : s.blocks.l.length ≤ s.blocks.cap := hat.blocks.1
    have hmb : s.blocks.cap ≤ 9223372036854775807 := hat.blocks.2.1
    have hlcr : s.ropes.l.length ≤ s.ropes.cap := hat.ropes.1
    have hmr : s.ropes.cap ≤ 9223372036854775807 := hat.ropes.2.1
    have HSB := hide (hatW W (Below.refl _ _)).blocks
    have HSR := hide (hatW W (Below.refl _ _)).ropes
    obtain ⟨f, hf⟩ : ∃ f, f = matF s.blocks.l s.ropes.l := ⟨_, rfl⟩
    rw [← hf] at KM HS HMB HPV
    clear hW hWs hWh hWb hbd hat hatW ht hv hrl hf hok
    obtain ⟨⟨A, cap, l⟩, ⟨A', cap', l'⟩⟩ := s
    simp only at *
    obtain ⟨bb, bo, hbA, hbb, hbc⟩ := HSB.out.2.2 (show 0 < l.length by omega)
    simp only at hbA
    subst hbA
    obtain ⟨rb, ro, hrA, hrb2, hrc⟩ := HSR.out.2.2 (show 0 < l'.length by omega)
    simp only at hrA
    subst hrA
    have HBC := hide hbc
    have HRC := hide hrc
    clear hbc hrc
    go_enter Tryd.func3, Tryd.ntmps3
    go_wp2_with fail
    rw [← HW.out]
    refine KA.out.mono ?_
    rintro e w1 ⟨rfl, y1, rfl⟩
    go_wp2_with fail
    refine (KR.out y1).mono ?_
    rintro e w1 ⟨b, _, rfl, hb⟩
    obtain ⟨y2, rfl⟩ := After.exists_iff (y1.below.trans (hb.mono y1.size))
    clear hb
    cases b
    · go_wp2
      go_ret
      exact Gives.mk rfl (HBD.out _)
    · go_wp2_with fail
      refine (KM.out y2).mono ?_
      rintro e U ⟨n0, hn0, rfl, hP, hb⟩
      have hUW : Below W.heap.size W U := y2.below.trans (hb.mono y2.size)
      have hcU := hc ⟨U, hUW⟩
      simp only at hcU
      have hzz : ∀ z : After U.heap.size U, Below W.heap.size W z.val := fun z => hUW.trans (z.below.mono hUW.size)
      have hcz := fun z : After U.heap.size U => hc ⟨z.val, hzz z⟩
      simp only at hcz
      have hPz := fun z : After U.heap.size U => hP.below (z.below.mono hP.size)
      have HZZ := hide hzz
      have HP := hide hP
      have HPZ := hide hPz
      have HBDU : Hid (∀ z : After U.heap.size U, Below w.heap.size w z.val) := hide fun z => HBD.out ⟨z.val, hzz z⟩
      have hn0z := hP.size
      clear hb hP hPz hzz hc hn0
      go_wp2
      go_loopw [35] (fun v wr => ∃ i : Nat, v = .int .i64 i ∧ i ≤ l.length ∧ ∃ z : After U.heap.size U, wr = z.val) (fun v _ => l.length - (intOf v).toNat)
      case atStart => exact ⟨0, rfl, Nat.zero_le _, After.refl _ _, rfl⟩
      case round =>
        obtain ⟨i, rfl, hi, z, rfl⟩ := hrel
        by_cases hit : i < l.length
        · have hoc := fun z => (HPZ.out z).outerCell hit
          have hii : (0 : Int) ≤ (i : Int) := by omega
          have hij : (i : Int) < (l.length : Int) := by omega
          have hbx : l[i]? = some l[i] := List.getElem?_eq_getElem hit
          have heb := fun z : After U.heap.size U => BlockD.elem hbx hbb HBC.out ⟨z.val, HZZ.out z⟩
          simp only at heb
          have HKP := hide (fun z : After U.heap.size U => by
            have := Gives.after (x := z) (Nat.le_refl _) (KP.out z.val (HZZ.out z) l[i].name)
            rw [HPV.out i _ hbx] at this
            exact this)
          clear hbx
          obtain ⟨bn, hbn⟩ : ∃ bn, bn = l[i].name := ⟨_, rfl⟩
          obtain ⟨bw, hbw⟩ : ∃ bw, bw = l[i].weight := ⟨_, rfl⟩
          rw [← hbn] at HKP
          rw [← hbn, ← hbw] at heb
          clear hbn hbw
          go_wp2
          refine wp_region_after z (by kernel_rfl) (by kernel_rfl) ?_
          repeat (go_big_quiet_step ((go_at_call 11; exact HKP.out _)))
          refine wpQuiet_nil ?_
          intro z
          go_wp2
          go_loopw [9, 59] (fun u v wr => ∃ k : Nat, v = .int .i64 k ∧ u = .int .i64 (rowTo f i k) ∧ k ≤ l'.length ∧ wr = z.val) (fun _ v _ => l'.length - (intOf v).toNat)
          case atStart => exact ⟨0, rfl, by simp [rowTo], Nat.zero_le _, rfl⟩
          case round =>
            obtain ⟨k, rfl, rfl, hk, rfl⟩ := hrel
            have hrb := rowTo_bound HS.out i k
            have hfb := HS.out i k
            by_cases hkt : k < l'.length
            · have hkx : l'[k]? = some l'[k] := List.getElem?_eq_getElem hkt
              have hm2 := HMB.out k _ hkx i
              obtain ⟨hh2, hh10⟩ := HRL.out _ (List.getElem_mem hkt)
              have her := RopeD.elem hkx hrb2 HRC.out ⟨z.val, HZZ.out z⟩
              simp only at her
              have hic := (HPZ.out z).cell hit hkt
              have HNX := hide (rowTo_next f i k)
              obtain ⟨a, ha⟩ : ∃ a, a = rowTo f i k := ⟨_, rfl⟩
              obtain ⟨b, hb⟩ : ∃ b, b = f i k := ⟨_, rfl⟩
              obtain ⟨n, hn⟩ : ∃ n, n = l'[k].holds.l.length := ⟨_, rfl⟩
              rw [← ha, ← hb] at HNX
              rw [← ha] at hrb ⊢
              rw [← hb] at hfb hic hm2
              rw [← hn] at hm2 hh2 hh10 her
              clear ha hb hn hkx
              have hki : (0 : Int) ≤ (k : Int) := by omega
              have hkj : (k : Int) < (l'.length : Int) := by omega
              go_wp2
              all_goals first
                | exact ⟨⟨k + 1, by go_num, by rw [HNX.out], by omega, trivial⟩, by simp [intOf]; omega⟩
                | (exfalso; omega)
            · have hkC : k = l'.length := by omega
              subst hkC
              go_wp2
              exact ⟨⟨i + 1, by go_num, by omega, _, rfl⟩, by simp [intOf]; omega⟩
        · go_wp2
          go_ret
          exact Gives.mk rfl (HBDU.out z)
  · have hv' : sysOk s = false := by simpa using hv
    clear hv
    clear hW hWs hWh hWb hbd hat hatW ht hok
    go_enter Tryd.func3, Tryd.ntmps3
    go_wp2_with fail
    rw [← HW.out]
    refine KA.out.mono ?_
    rintro e w1 ⟨rfl, y1, rfl⟩
    go_wp2_with fail
    refine (KR.out y1).mono ?_
    rintro e w1 ⟨b, hbv, rfl, hb⟩
    obtain ⟨y2, rfl⟩ := After.exists_iff (y1.below.trans (hb.mono y1.size))
    cases b
    · clear hb
      go_wp2
      go_ret
      exact Gives.mk rfl (HBD.out _)
    · exact absurd (hbv rfl) (by rw [hv']; simp)
end Go.Proofs.YtgamhdbcejkllaaDoor
