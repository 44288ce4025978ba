/- loftblockref10.block, ropeOf: the block and the rope that a line's words say. -/
import Derived.Test.YtgamhdbcejkllaaGreatDoorRefFrac
namespace Go.Proofs.YtgamhdbcejkllaaGreatDoor
open Go.RowKit

/-- a block and whether the words have its form -/
def BlockR (w : World) (ws : List (List UInt8)) (e : Ending) (w' : World) : Prop :=
  ∃ (b : BlockD) (ok : Bool), e = .returned (.tuple #[.agg #[.string b.name, .int .i64 b.weight], .bool ok]) ∧ Below w.heap.size w w' ∧ (ok = true → b.ok) ∧ blockE ws = if ok = true then some b.plain else none
set_option maxRecDepth 100000 in
set_option maxHeartbeats 8000000 in
theorem refBlockOf_any (A : Option Addr) (cap : Nat) (LB : List ByteArray) (hsz : ∀ b ∈ LB, b.size ≤ 1000000) (hcap : cap ≤ maxLen) (w : World) (B : Nat) (hB : B ≤ w.heap.size) (hat : SlAt w B 1 strCells ⟨A, cap, LB⟩) :
    Calls Tryz.prog 42 #[.slice A LB.length cap] w (BlockR w (LB.map bs)) := by
  obtain ⟨W, hW, hWs, hWb, hWh⟩ := boxed w (.cells #[.string ⟨#[]⟩, .int .i64 0] 50)
  have hlt : w.heap.size < W.heap.size := by omega
  have hlc := hat.1
  simp only at hlc
  have hRc := fun z : After W.heap.size W => (z.below.block _ hlt).trans hWh
  have hset := fun (z : After W.heap.size W) (p q : Value) => two_cells (two_set (c := p) (d := q) (hRc z))
  have hRd := fun z : After W.heap.size W => two_cells (hRc z)
  have hfz := fun (z : After W.heap.size W) i => block_unfrozen (hRc z) i
  have hfz1 := fun (z : After W.heap.size W) p i => block_unfrozen (block_set (hRc z) (i := 0) p) i
  have HF : Hid (∀ (z : After W.heap.size W) (p q : Value), Below w.heap.size w ((z.val.setCell ⟨w.heap.size, 0, none⟩ p).setCell ⟨w.heap.size, 1, none⟩ q)) := hide fun z p q =>
    ((hWb.trans (z.below.mono (by omega))).setCell (p := ⟨w.heap.size, 0, none⟩) (Nat.le_refl _) _).setCell (p := ⟨w.heap.size, 1, none⟩) (Nat.le_refl _) _
  have HRS := hide fun (z : After W.heap.size W) => And.intro (hRd z) (And.intro (hset z) (And.intro (hfz z) (hfz1 z)))
  have HZ : Hid (BlockD.ok ⟨⟨#[]⟩, 0⟩) := hide ⟨by show (#[] : Array UInt8).size ≤ maxLen; simp, by show I64 0; exact ⟨by omega, by omega⟩⟩
  have HW := hide hW
  have hm := hcap
  unfold maxLen at hm
  obtain ⟨hr1, hr2, hr3, hr4⟩ := HRS.out (After.refl _ _)
  simp only [After.refl] at hr1 hr2 hr3 hr4
  clear hW hWh hRc hset hRd hfz hfz1
  by_cases h3 : LB.length = 3
  · obtain ⟨b, off, hA, hb, hce⟩ := hat.2.2 (show 0 < LB.length by omega)
    simp only at hA
    subst hA
    have hE : ∀ (k : Nat) (s : ByteArray), LB[k]? = some s → ∀ y : After W.heap.size W, y.val.cell? ⟨b, off + k, none⟩ = some (.string s) := fun k s hs y => strElem hs (by omega : b < w.heap.size) hce ⟨y.val, hWb.trans (y.below.mono (by omega))⟩
    obtain ⟨b1, hb1⟩ : ∃ b, LB[1]? = some b := ⟨LB[1], List.getElem?_eq_getElem (by omega)⟩
    obtain ⟨b2, hb2⟩ : ∃ b, LB[2]? = some b := ⟨LB[2], List.getElem?_eq_getElem (by omega)⟩
    have hz1 := hsz b1 (List.mem_of_getElem? hb1)
    have hz2 := hsz b2 (List.mem_of_getElem? hb2)
    have HE1 := hide (blockE_three (w := LB.map bs) (a := bs b1) (b := bs b2) (by rw [List.length_map, h3]) (by simp [hb1]) (by simp [hb2]))
    have KN := hide fun (y : After W.heap.size W) => refInt_any b2 hz2 y.val
    have KM := hide (Gives.first (refIsName_any b1 W (by unfold maxLen; omega)))
    obtain ⟨nb, hnb⟩ : ∃ nb, isName b1 = nb := ⟨_, rfl⟩
    rw [hnb] at KM
    have HNB := hide (show isNameL (bs b1) = nb from hnb)
    have hc1 := hE 1 b1 hb1
    have hc2 := hE 2 b2 hb2
    have hc10 := hc1 (After.refl _ _)
    simp only [After.refl] at hc10
    have h31 : ((LB.length : Int) != 3) = false := by rw [h3]; rfl
    have h3a : (1 : Int) < (LB.length : Int) := by omega
    have h3b : (2 : Int) < (LB.length : Int) := by omega
    clear hnb hb1 hb2 h3 hat hsz hce hE
    go_enter Tryz.func42, Tryz.ntmps42
    go_upto_region 1 with fail
    rw [← HW.out]
    go_cut [15] (fun a wx => a = .bool (!nb) ∧ ∃ z : After W.heap.size W, wx = z.val)
    case first =>
      go_wp2_with (go_at_call 25; refine KM.out.mono ?_; rintro e w1 ⟨rfl, z, rfl⟩)
      go_meet
      exact ⟨by cases nb <;> rfl, z, rfl⟩
    case rest =>
    obtain ⟨rfl, z, rfl⟩ := hcut
    clear hc10 hr1 hr2 hr3 hr4
    cases nb
    · obtain ⟨hr1, hr2, hr3, hr4⟩ := HRS.out z
      have HN := hide (show blockE (LB.map bs) = none by rw [HE1.out, HNB.out]; rfl)
      go_wp2_with fail
      refine bodyPost_ret (by simp [results, Tryz.results42, go_sem, hr2]; try rfl) rfl ?_
      exact ⟨⟨⟨#[]⟩, 0⟩, false, rfl, HF.out z _ _, fun _ => HZ.out, HN.out⟩
    · have hc1z := hc1 z
      have hc2z := hc2 z
      go_wp2_with fail
      refine (KN.out z).mono ?_
      rintro e w2 ⟨n, okn, rfl, hbn, hn1⟩
      obtain ⟨y, rfl⟩ := After.exists_iff (z.below.trans (hbn.mono z.size))
      have HN1 := hide hn1
      obtain ⟨hr1, hr2, hr3, hr4⟩ := HRS.out y
      have hc1y := hc1 y
      have HN := hide (show blockE (LB.map bs) = if okn = true then some (BlockD.plain ⟨b1, n⟩) else none by
        rw [HE1.out, HNB.out, if_pos rfl, HN1.out]
        cases okn <;> rfl)
      clear hbn hn1 hc1z hc2z hc1 hc2
      go_wp2_with fail
      refine bodyPost_ret (by simp [results, Tryz.results42, go_sem, hr2]; try rfl) rfl ?_
      refine ⟨⟨b1, n⟩, okn, rfl, HF.out y _ _, fun h => ?_, HN.out⟩
      have h9 := HN1.out
      rw [if_pos h] at h9
      have := numE_small h9
      exact ⟨by show b1.size ≤ maxLen; unfold maxLen; omega, ⟨by show -9223372036854775808 ≤ n; omega, by show n ≤ 9223372036854775807; omega⟩⟩
  · have HN := hide (show blockE (LB.map bs) = none from blockE_long (by rw [List.length_map]; exact h3))
    have h31 : ((LB.length : Int) != 3) = true := by simp; omega
    clear h3 hat hsz
    go_enter Tryz.func42, Tryz.ntmps42
    go_upto_region 2 with fail
    rw [← HW.out]
    go_wp2_with fail
    refine bodyPost_ret (by simp [results, Tryz.results42, go_sem, hr2]; try rfl) rfl ?_
    exact ⟨⟨⟨#[]⟩, 0⟩, false, rfl, HF.out (After.refl _ _) _ _, fun _ => HZ.out, HN.out⟩
set_option maxRecDepth 100000 in
set_option maxHeartbeats 8000000 in
theorem refRopeOf_any (A : Option Addr) (cap : Nat) (LB : List ByteArray) (hsz : ∀ b ∈ LB, b.size ≤ 1000000) (hL : LB.length ≤ 1000000) (hcap : cap ≤ maxLen) (w : World) (B : Nat) (hB : B ≤ w.heap.size) (hat : SlAt w B 1 strCells ⟨A, cap, LB⟩) :
    Calls Tryz.prog 43 #[.slice A LB.length cap] w (RopeR w (LB.map bs)) := by
  obtain ⟨W, hW, hWs, hWb, hWh⟩ := boxed w (.cells #[.string ⟨#[]⟩, .slice none 0 0, .bool false] 53)
  have hlc := hat.1
  simp only at hlc
  have hlt : w.heap.size < W.heap.size := by omega
  have KN := hide fun (s : ByteArray) (hs : s.size ≤ 1000000) (y : After W.heap.size W) => refInt_any s hs y.val
  have KF := hide fun (s : ByteArray) (hs : s.size ≤ 1000000) (y : After W.heap.size W) => refFracParse_any s hs y.val
  have KM := hide fun (s : ByteArray) (hs : s.size ≤ 1000000) (y : After W.heap.size W) => Gives.after (x := y) (Nat.le_refl _) (refIsName_any s y.val (by unfold maxLen; omega))
  have hres := fun (z : After W.heap.size W) => three_all ((z.below.block _ hlt).trans hWh) (.string ⟨#[]⟩) (.slice none 0 0) (.bool false)
  have hfin : ∀ (z : After W.heap.size W) (p q r : Value), Below w.heap.size w (((z.val.setCell ⟨w.heap.size, 0, none⟩ p).setCell ⟨w.heap.size, 1, none⟩ q).setCell ⟨w.heap.size, 2, none⟩ r) := fun z p q r =>
    (((hWb.trans (z.below.mono (by omega))).setCell (p := ⟨w.heap.size, 0, none⟩) (Nat.le_refl _) _).setCell (p := ⟨w.heap.size, 1, none⟩) (Nat.le_refl _) _).setCell (p := ⟨w.heap.size, 2, none⟩) (Nat.le_refl _) _
  have HBAD : Hid (∀ z : After W.heap.size W, ropeE fracOk (LB.map bs) = none → RopeR w (LB.map bs) (.returned (.tuple #[.agg #[.string ⟨#[]⟩, .slice none 0 0, .bool false], .bool false])) (((z.val.setCell ⟨w.heap.size, 0, none⟩ (.string ⟨#[]⟩)).setCell ⟨w.heap.size, 1, none⟩ (.slice none 0 0)).setCell ⟨w.heap.size, 2, none⟩ (.bool false))) := hide fun z h =>
    ⟨⟨⟨#[]⟩, ⟨none, 0, []⟩, false⟩, false, rfl, hfin z _ _ _, ⟨by show (#[] : Array UInt8).size ≤ maxLen; simp, fun h hh => absurd hh (by simp)⟩, Or.inr ⟨rfl, h, rfl⟩⟩
  have HBAD1 : Hid (ropeE fracOk (LB.map bs) = none → RopeR w (LB.map bs) (.returned (.tuple #[.agg #[.string ⟨#[]⟩, .slice none 0 0, .bool false], .bool false])) W) := hide fun h =>
    ⟨⟨⟨#[]⟩, ⟨none, 0, []⟩, false⟩, false, rfl, hWb, ⟨by show (#[] : Array UInt8).size ≤ maxLen; simp, fun h hh => absurd hh (by simp)⟩, Or.inr ⟨rfl, h, rfl⟩⟩
  have HFIN := hide hfin
  have HWH := hide hWh
  have HW := hide hW
  have hget : ∀ k, k < LB.length → ∃ s, LB[k]? = some s ∧ s.size ≤ 1000000 ∧ (LB.map bs)[k]? = some (bs s) := fun k hk => ⟨LB[k], List.getElem?_eq_getElem hk, hsz _ (List.getElem_mem hk), by simp [hk]⟩
  have HGET := hide hget
  have hm := hcap
  unfold maxLen at hm
  have hr0 := hres (After.refl _ _)
  simp only [After.refl] at hr0
  have hr00 := hr0
  simp only [hW] at hr0
  clear hW hWh hget hsz hfin
  by_cases h6 : (LB.length : Int) < 6
  · have HN := hide (show ropeE fracOk (LB.map bs) = none from ropeE_short (Or.inl (by rw [List.length_map]; omega)))
    go_enter Tryz.func43, Tryz.ntmps43
    go_wp2_with fail
    refine bodyPost_ret (by simp [results, Tryz.results43, go_sem, hr0]; try rfl) rfl ?_
    rw [← HW.out]
    exact HBAD1.out HN.out
  by_cases h3 : (LB.length : Int) % 3 = 0
  rotate_left
  · have HN := hide (show ropeE fracOk (LB.map bs) = none from ropeE_short (Or.inr (by rw [List.length_map]; omega)))
    have h32 : ((LB.length : Int).tmod 3 == 0) = false := by rw [beq_eq_false_iff_ne, Int.tmod_eq_emod_of_nonneg (by omega)]; exact h3
    have h33 : ¬ ((LB.length : Int).tmod 3 = 0) := by rw [Int.tmod_eq_emod_of_nonneg (by omega)]; exact h3
    go_enter Tryz.func43, Tryz.ntmps43
    go_wp2_with fail
    refine bodyPost_ret (by simp [results, Tryz.results43, go_sem, hr0]; try rfl) rfl ?_
    rw [← HW.out]
    exact HBAD1.out HN.out
  have h33 : (LB.length : Int).tmod 3 = 0 := by rw [Int.tmod_eq_emod_of_nonneg (by omega)]; exact h3
  obtain ⟨b, off, hA, hb, hce⟩ := hat.2.2 (show 0 < LB.length by omega)
  simp only at hA
  subst hA
  have hE : ∀ (k : Nat) (s : ByteArray), LB[k]? = some s → ∀ y : After W.heap.size W, y.val.cell? ⟨b, off + k, none⟩ = some (.string s) := fun k s hs y => strElem hs (by omega : b < w.heap.size) hce ⟨y.val, hWb.trans (y.below.mono (by omega))⟩
  have HE := hide hE
  have HCE := hide hce
  clear hE hce
  obtain ⟨nm, hx1, hs1, hm1⟩ := HGET.out 1 (by omega)
  obtain ⟨kd, hx2, hs2, hm2⟩ := HGET.out 2 (by omega)
  have hc1 := HE.out 1 nm hx1
  have hc2 := HE.out 2 kd hx2
  have hc10 := hc1 (After.refl _ _)
  simp only [After.refl] at hc10
  simp only [HW.out] at hc10
  have HM1 := hide hm1
  have HM2 := hide hm2
  clear hx1 hx2 hm1 hm2
  have KNM := hide (Gives.first (refIsName_any nm W (by unfold maxLen; omega)))
  have HAU : ∃ u : Bool, (kd.toList == [104, 97, 117, 108, 101, 100]) = u := ⟨_, rfl⟩
  have HFI : ∃ f : Bool, (kd.toList == [102, 105, 120, 101, 100]) = f := ⟨_, rfl⟩
  have HNA : ∃ n : Bool, isName nm = n := ⟨_, rfl⟩
  obtain ⟨u, hu⟩ := HAU
  obtain ⟨f, hf⟩ := HFI
  obtain ⟨n, hn⟩ := HNA
  have hru : ropeE fracOk (LB.map bs) = if (n && (u || f)) = true then (holdsE fracOk ((LB.map bs).drop 3)).map fun l => ⟨bs nm, u, l⟩ else none := by
    have hu2 : decide (bs kd = wHauled) = u := by
      rw [← hu]
      exact (Bool.beq_eq_decide_eq _ _).symm
    have hf2 : decide (bs kd = wFixed) = f := by
      rw [← hf]
      exact (Bool.beq_eq_decide_eq _ _).symm
    cases hnu : (n && (u || f))
    · rw [if_neg (by simp)]
      refine ropeE_head HM1.out HM2.out ?_
      cases n
      · exact Or.inl hn
      · simp only [Bool.true_and, Bool.or_eq_false_iff] at hnu
        refine Or.inr ⟨fun e => ?_, fun e => ?_⟩
        · rw [decide_eq_true e] at hu2; rw [← hu2] at hnu; cases hnu.1
        · rw [decide_eq_true e] at hf2; rw [← hf2] at hnu; cases hnu.2
    · rw [if_pos rfl]
      rw [Bool.and_eq_true, Bool.or_eq_true] at hnu
      rw [ropeE_holds (by rw [List.length_map]; omega) (by rw [List.length_map]; omega) HM1.out HM2.out (by rw [← hnu.1]; exact hn) (by
        rcases hnu.2 with e | e
        · rw [e] at hu2; exact Or.inl (of_decide_eq_true hu2)
        · rw [e] at hf2; exact Or.inr (of_decide_eq_true hf2)), hu2]
  rw [hn] at KNM
  have HRU := hide hru
  have HN := hide hn
  clear hru hn
  go_enter Tryz.func43, Tryz.ntmps43
  go_upto_region 1 with fail
  go_cut [38] (fun a wx => a = .bool (!(n && (u || f))) ∧ ∃ y : After W.heap.size W, wx = y.val)
  case first =>
    cases n
    · go_wp2_with (go_at_call 25; rw [← HW.out]; refine KNM.out.mono ?_; rintro e w1 ⟨rfl, y, rfl⟩; have hcy := hc2 y)
      go_meet
      exact ⟨rfl, y, rfl⟩
    · cases u
      · cases f
        · go_wp2_with (go_at_call 25; rw [← HW.out]; refine KNM.out.mono ?_; rintro e w1 ⟨rfl, y, rfl⟩; have hcy := hc2 y)
          go_meet
          exact ⟨rfl, y, rfl⟩
        · go_wp2_with (go_at_call 25; rw [← HW.out]; refine KNM.out.mono ?_; rintro e w1 ⟨rfl, y, rfl⟩; have hcy := hc2 y)
          go_meet
          exact ⟨rfl, y, rfl⟩
      · go_wp2_with (go_at_call 25; rw [← HW.out]; refine KNM.out.mono ?_; rintro e w1 ⟨rfl, y, rfl⟩; have hcy := hc2 y)
        go_meet
        exact ⟨rfl, y, rfl⟩
  case rest =>
  obtain ⟨rfl, y, rfl⟩ := hcut
  cases hnu : (n && (u || f))
  · have HN2 := hide (show ropeE fracOk (LB.map bs) = none by rw [HRU.out, hnu]; rfl)
    have hry := hres y
    clear hnu
    go_wp2
    refine bodyPost_ret (by simp [results, Tryz.results43, go_sem, hry]; try rfl) rfl ?_
    exact HBAD.out y HN2.out
  have HRU2 := hide (show ropeE fracOk (LB.map bs) = (holdsE fracOk ((LB.map bs).drop 3)).map fun l => ⟨bs nm, u, l⟩ by rw [HRU.out, hnu]; rfl)
  clear hnu HRU hr0 hr00 hc10 KNM
  have hc1y := hc1 y
  have hc2y := hc2 y
  go_wp2
  have hby : b < y.val.heap.size := by have := y.size; omega
  go_region
  obtain ⟨V, hV⟩ : ∃ V, V = (y.val.alloc (.cells #[.string nm, .slice none 0 0, .bool u] 53)).drew := ⟨_, rfl⟩
  have hVb : Below y.val.heap.size y.val V := by rw [hV]; exact ((Below.refl _ _).alloc (Nat.le_refl _) _).drew
  obtain ⟨rb, hrb⟩ : ∃ rb, rb = y.val.heap.size := ⟨_, rfl⟩
  have hbx : V.heap[rb]? = some (.cells #[.string nm, .slice none 0 0, .bool u] 53 (0, 0)) := by rw [hV, hrb]; exact heap_alloc_new y.val _
  have HST := hide (show RdSt W rb nm u (.slice none 0 0) [] V from ⟨y.below.trans (hVb.mono y.size), by rw [hrb]; exact y.size, own_nil _ _ _ _, hbx⟩)
  have HHA := hide (HoldsAt.start fracOk (LB.map bs))
  rw [← hV, ← hrb]
  clear hc1y hc2y hc1 hc2 hby hbx hVb hV hrb
  have h3N : LB.length % 3 = 0 := by omega
  go_wp2
  go_loopw [5, 6, 7, 8, 9, 10] (fun c _ _ _ _ _ wr => ∃ (k : Nat) (vv : Value) (l : List HoldD), c = .int .i64 k ∧ k = 3 + 3 * l.length ∧ k ≤ LB.length ∧ Hid (RdSt W rb nm u vv l wr) ∧ Hid (HoldsAt fracOk (LB.map bs) k (l.map HoldD.plain)) ∧ Hid (∀ h ∈ l, h.ok)) (fun c _ _ _ _ _ _ => LB.length - (intOf c).toNat)
  case atStart => exact ⟨3, _, [], rfl, rfl, by omega, HST, HHA, hide fun h hh => absurd hh (by simp)⟩
  case round =>
    obtain ⟨k, vv, l, rfl, hkl, hk, st, ha, hok⟩ := hrel
    obtain ⟨X, hX⟩ : ∃ X : After W.heap.size W, X.val = wr := ⟨⟨wr, st.out.bel⟩, rfl⟩
    subst hX
    by_cases hlt : k < LB.length
    · obtain ⟨s0, hx0, hs0, hm0⟩ := HGET.out k (by omega)
      obtain ⟨s1, hx1, hs1, hm1⟩ := HGET.out (k + 1) (by omega)
      obtain ⟨s2, hx2, hs2, hm2⟩ := HGET.out (k + 2) (by omega)
      have hc0 := HE.out k s0 hx0
      have hc1 := HE.out (k + 1) s1 hx1
      have hc2 := HE.out (k + 2) s2 hx2
      have HM0 := hide hm0
      have HM1 := hide hm1
      have HM2 := hide hm2
      have hll : l.length ≤ 1000000 := by omega
      have HKL := hide hkl
      have hk3 : k + 3 ≤ LB.length := by omega
      clear hx0 hx1 hx2 hm0 hm1 hm2 hkl
      obtain ⟨fr, hfr⟩ : ∃ fr, (s0.toList == [45]) = fr := ⟨_, rfl⟩
      obtain ⟨nb, hnb⟩ : ∃ nb, isName s0 = nb := ⟨_, rfl⟩
      obtain ⟨blk, hblk⟩ : ∃ blk, blk = if fr then ⟨#[]⟩ else s0 := ⟨_, rfl⟩
      have hfr2 : decide (bs s0 = wFree) = fr := by rw [← hfr]; exact (Bool.beq_eq_decide_eq _ _).symm
      have HFR2 := hide hfr2
      have HNB2 := hide (show isNameL (bs s0) = nb from hnb)
      obtain ⟨Y, hY, hYs, hYb, hYh⟩ := boxed X.val (.cells #[.string s0, .int .i64 0, .int .i64 0, .int .i64 0] 57)
      obtain ⟨hb, hhb⟩ : ∃ hb, hb = X.val.heap.size := ⟨_, rfl⟩
      rw [← hhb] at hYs hYh
      have HHB := hide hhb
      have hWX := X.size
      have hc00 := hc0 ⟨Y, X.below.trans (hYb.mono X.size)⟩
      simp only at hc00
      have hc00a := hc00
      simp only [hY] at hc00a
      have KNB := hide (Gives.first (refIsName_any s0 Y (by unfold maxLen; omega)))
      rw [hnb] at KNB
      have HY := hide hY
      have HYB := hide hYb
      have hfz0 := block_unfrozen hYh 0
      have HSB := hide (show (Y.setCell ⟨hb, 0, none⟩ (.string ⟨#[]⟩)).heap[hb]? = some (.cells #[.string ⟨#[]⟩, .int .i64 0, .int .i64 0, .int .i64 0] 57 (0, 0)) by rw [block_set hYh]; rfl)
      have HYH := hide hYh
      have hhbY : hb < Y.heap.size := by omega
      have HBLK := hide hblk
      have hby1 := Joins.cell_of_block HYH.out 0
      simp only [List.getElem?_toArray, List.getElem?_cons_zero] at hby1
      have HC1 := hide hc1
      have HC2 := hide hc2
      clear hblk hfr2 hY hYb hYh hhb hnb hc1 hc2
      go_upto_if 63 with fail
      rw [← HY.out, ← HHB.out]
      go_cut [5] (fun a wx => a = .int .i64 k ∧ Below X.val.heap.size X.val wx ∧ wx.heap[hb]? = some (.cells #[.string blk, .int .i64 0, .int .i64 0, .int .i64 0] 57 (0, 0)) ∧ (fr || nb) = true)
      case first =>
        cases fr
        · cases nb
          · have HN := hide (show ropeE fracOk (LB.map bs) = none by
              rw [HRU2.out, ha.out.stop HM0.out HM1.out HM2.out (holdE_noName (of_decide_eq_false HFR2.out) HNB2.out)]; rfl)
            have hrY := fun z : After Y.heap.size Y => hres ⟨z.val, (X.below.trans (HYB.out.mono hWX)).trans (z.below.mono (Nat.le_trans hWX HYB.out.size))⟩
            simp only at hrY
            have HBB := hide fun z : After Y.heap.size Y => HBAD.out ⟨z.val, (X.below.trans (HYB.out.mono hWX)).trans (z.below.mono (Nat.le_trans hWX HYB.out.size))⟩ HN.out
            go_wp2_with (go_at_call 25; refine KNB.out.mono ?_; rintro e w1 ⟨rfl, z, rfl⟩; have hrz := hrY z)
            refine bodyPost_ret (by simp [results, Tryz.results43, go_sem, hrz]; try rfl) rfl ?_
            exact HBB.out z
          · go_wp2_with (go_at_call 25; refine KNB.out.mono ?_; rintro e w1 ⟨rfl, z, rfl⟩)
            go_meet
            exact ⟨rfl, HYB.out.trans (z.below.mono HYB.out.size), by rw [z.below.block hb hhbY, HYH.out, HBLK.out]; rfl, rfl⟩
        · go_wp2_with fail
          go_meet
          exact ⟨rfl, HYB.out.setCell (p := ⟨hb, 0, none⟩) (by rw [HHB.out]; exact Nat.le_refl _) _, by rw [HSB.out, HBLK.out]; rfl, rfl⟩
      case rest =>
      obtain ⟨rfl, hXw, hbx, hok2⟩ := hcut
      have STX := st
      have hWw : Below W.heap.size W wc := X.below.trans (hXw.mono hWX)
      have hwlt := hXw.size
      have hWlt := hWw.size
      have hc1w := HC1.out ⟨wc, hWw⟩
      simp only at hc1w
      have hhbw := (Array.getElem?_eq_some_iff.1 hbx).1
      have hhbX : X.val.heap.size ≤ hb := Nat.le_of_eq HHB.out.symm
      have HOK2 := hide hok2
      have HBX := hide hbx
      have HXW := hide hXw
      have HWW := hide hWw
      clear hfr hc00 hc00a hfz0 hby1 KNB hok2 hXw hWw
      go_wp2_with fail
      refine (KN.out s1 hs1 ⟨wc, HWW.out⟩).mono ?_
      rintro e w1 ⟨n, okn, rfl, hb1, hn1⟩
      obtain ⟨y1, rfl⟩ := After.exists_iff hb1
      have HN1 := hide hn1
      have hc2w := HC2.out ⟨y1.val, HWW.out.trans (y1.below.mono hWlt)⟩
      simp only at hc2w
      clear hn1 hb1 hc1w
      go_wp2_with fail
      refine (KF.out s2 hs2 ⟨y1.val, HWW.out.trans (y1.below.mono hWlt)⟩).mono ?_
      rintro e w2 ⟨num, den, okf, rfl, hb2, hf1⟩
      obtain ⟨y2, rfl⟩ : ∃ y2 : After wc.heap.size wc, w2 = y2.val := After.exists_iff (y1.below.trans (hb2.mono y1.size))
      have HF1 := hide hf1
      clear hb2 hf1 hc2w
      obtain ⟨Z0, hZ0, hZs, hZb, hZh⟩ := boxed y2.val (.cells #[.int .i64 num, .int .i64 den] 55)
      obtain ⟨fb, hfb⟩ : ∃ fb, fb = y2.val.heap.size := ⟨_, rfl⟩
      rw [← hfb] at hZs hZh
      have hy2 := y2.size
      have hwZ : Below wc.heap.size wc Z0 := y2.below.trans (hZb.mono hy2)
      have HWZ := hide hwZ
      have hWZ : Below W.heap.size W Z0 := HWW.out.trans (hwZ.mono hWlt)
      have hrZ := hres ⟨Z0, hWZ⟩
      simp only at hrZ
      have HBZ := hide (HBAD.out ⟨Z0, hWZ⟩)
      have hrZa := hrZ
      simp only [hZ0] at hrZa
      have HZ0 := hide hZ0
      have HFB := hide hfb
      have HZH := hide hZh
      have hhb1 : hb < fb := by omega
      clear hZ0 hfb hwZ hZb hZh hy2
      cases okn
      · have HN := hide (show ropeE fracOk (LB.map bs) = none by
          rw [HRU2.out, ha.out.stop HM0.out HM1.out HM2.out (holdE_noNum (by rw [HN1.out]; rfl))]; rfl)
        go_wp2_with fail
        refine bodyPost_ret (by simp [results, Tryz.results43, go_sem, hrZa]; try rfl) rfl ?_
        rw [← HZ0.out]
        exact HBZ.out HN.out
      cases okf
      · have HN := hide (show ropeE fracOk (LB.map bs) = none by
          rw [HRU2.out, ha.out.stop HM0.out HM1.out HM2.out (holdE_noFrac (by rw [HF1.out]; rfl))]; rfl)
        go_wp2_with fail
        refine bodyPost_ret (by simp [results, Tryz.results43, go_sem, hrZa]; try rfl) rfl ?_
        rw [← HZ0.out]
        exact HBZ.out HN.out
      obtain ⟨hd, hhd⟩ : ∃ hd : HoldD, hd = ⟨blk, n, num, den⟩ := ⟨_, rfl⟩
      have h1 : numE (bs s1) = some n := HN1.out
      have h2 : fracE fracOk (bs s2) = some (num, den) := HF1.out
      have HHD := hide (show hd.ok by
        have h4 := fracBound _ _ (fracE_some h2).1
        have h5 := numE_small h1
        rw [hhd]
        refine ⟨?_, ⟨by show -9223372036854775808 ≤ n; omega, by show n ≤ 9223372036854775807; omega⟩, ⟨by simp only at h4 ⊢; omega, by simp only at h4 ⊢; omega⟩, ⟨by simp only at h4 ⊢; omega, by simp only at h4 ⊢; omega⟩⟩
        show blk.size ≤ maxLen
        rw [HBLK.out]; unfold maxLen
        split
        · decide
        · omega)
      have HAN := hide (ha.out.next (h := hd.plain) HM0.out HM1.out HM2.out (by
        cases fr
        · have hnb : nb = true := HOK2.out
          rw [holdE_named (by rw [HNB2.out, hnb]) h1 h2, hhd, HoldD.plain, HBLK.out]; rfl
        · rw [of_decide_eq_true HFR2.out, holdE_free h1 h2, hhd, HoldD.plain, HBLK.out]
          simp [bs_nil]))
      have q0 : Z0.heap[hb]? = some (.cells #[.string blk, .int .i64 0, .int .i64 0, .int .i64 0] 57 (0, 0)) := (HWZ.out.block hb hhbw).trans HBX.out
      have q1 := block_set q0 (i := 1) (.int .i64 n)
      have q2 := block_set q1 (i := 2) (.int .i64 num)
      have q3 := block_set q2 (i := 3) (.int .i64 den)
      simp only [List.setIfInBounds_toArray, List.set_cons_succ, List.set_cons_zero] at q1 q2 q3
      have f0 : ∀ u, (Z0.setCell ⟨hb, 1, none⟩ u).heap[fb]? = some (.cells #[.int .i64 num, .int .i64 den] 55 (0, 0)) := fun u => (RowKit.Below.heap_setCell _ _ _ _ (by simp only; omega)).trans HZH.out
      have g0 := two_cells (f0 (.int .i64 n))
      have e1 : Z0.cell? ⟨hb, 1, none⟩ = some (.int .i64 0) := (Joins.cell_of_block q0 1).trans rfl
      have e2 : (Z0.setCell ⟨hb, 1, none⟩ (.int .i64 n)).cell? ⟨hb, 2, none⟩ = some (.int .i64 0) := (Joins.cell_of_block q1 2).trans rfl
      have e3 : ((Z0.setCell ⟨hb, 1, none⟩ (.int .i64 n)).setCell ⟨hb, 2, none⟩ (.int .i64 num)).cell? ⟨hb, 3, none⟩ = some (.int .i64 0) := (Joins.cell_of_block q2 3).trans rfl
      have z1 := block_unfrozen q0 1
      have z2 := block_unfrozen q1 2
      have z3 := block_unfrozen q2 3
      obtain ⟨Z, hZ⟩ : ∃ Z, Z = ((Z0.setCell ⟨hb, 1, none⟩ (.int .i64 n)).setCell ⟨hb, 2, none⟩ (.int .i64 num)).setCell ⟨hb, 3, none⟩ (.int .i64 den) := ⟨_, rfl⟩
      rw [← hZ] at q3
      have hXZ : Below X.val.heap.size X.val Z := by
        rw [hZ]
        exact (((HXW.out.trans (HWZ.out.mono hwlt)).setCell (p := ⟨hb, 1, none⟩) hhbX _).setCell (p := ⟨hb, 2, none⟩) hhbX _).setCell (p := ⟨hb, 3, none⟩) hhbX _
      have STZ := hide (STX.out.more hXZ)
      have HXZ := hide hXZ
      have HZ := hide hZ
      have HQ3 := hide (show Z.heap[hb]? = some (.cells hd.cells.toArray 57 (0, 0)) by rw [q3, hhd]; rfl)
      have HHD2 := hide hhd
      clear hZ hXZ h1 h2 q3 hhd f0
      go_upto_region 16 with fail
      rw [← HZ0.out, ← HFB.out]
      clear q0 q1 q2 hrZa hrZ
      go_upto_region 18 with fail
      rw [← HZ.out]
      have hbz := three_cells STZ.out.box
      have hhz := HoldD.boxed (h := hd) HQ3.out (Array.getElem?_eq_some_iff.1 HQ3.out).1 (After.refl _ _)
      simp only [After.refl] at hhz
      have hrbl := STZ.out.lt
      have hwz : W.heap.size ≤ Z.heap.size := STZ.out.bel.size
      obtain ⟨A2, cap2, hvv, hvc1, hvc2, _⟩ := own_slice STZ.out.own
      subst hvv
      have HAL := hide ((Below.refl Z.heap.size Z).alloc (Nat.le_refl _) (.cells #[.string hd.block, .int .i64 hd.pulls, .int .i64 hd.num, .int .i64 hd.den] 57))
      clear e1 e2 e3 z1 z2 z3 g0
      go_wp2_with (at_builtin; refine Hid.out ?_)
      obtain ⟨i1, hj, hy0, hy1, hy2⟩ := info_parts infoHld
      refine Lib.hid ?_
      refine wpList_append_own _ rfl _ _ 51 rfl W.heap.size 57 i1 _ 4 40 Tryz.underlying51 hj hy0 hy1 hy2 rfl (by decide) _ _ _ rfl (STZ.out.own.alloc _) ⟨Z.heap.size, 0, none⟩ 1 1 hd.cells rfl rfl (World.news_of_block (heap_alloc_new Z _)) (fun u hu => by simp [HoldD.cells] at hu; rcases hu with rfl | rfl | rfl | rfl <;> rfl) (by unfold maxLen; omega) (by omega) (by simp; omega) ?_
      intro v3 w3 hown3 hgr3 _
      obtain ⟨hbx3, hst3⟩ := RdSt.append STZ.out HAL.out hown3 hgr3
      obtain ⟨A3, cap3, hv3, _⟩ := own_slice hown3
      subst hv3
      have hb3 := three_cells hbx3
      have hf3 := block_unfrozen hbx3 1
      have HST3 := hide hst3
      have HLK := hide (show k + 3 = 3 + 3 * (l ++ [hd]).length by rw [List.length_append, HKL.out]; simp; omega)
      clear hown3 hgr3 hbx3 hst3 hbz hhz hj hy0 hy1 hy2
      go_wp2
      exact ⟨⟨k + 3, _, l ++ [hd], by go_num, HLK.out, hk3, HST3, hide (by rw [List.map_append]; exact HAN.out), hide (fun h hh => by
        rcases List.mem_append.1 hh with hh | hh
        · exact hok.out h hh
        · rw [List.mem_singleton] at hh; subst hh; exact HHD.out)⟩, by simp [intOf]; omega⟩
    · have hlk : LB.length ≤ k := by omega
      obtain ⟨A3, cap3, hv3, hHI⟩ := st.out.holdsIn (fun e => by rw [e] at hkl; simp at hkl; omega)
      subst hv3
      have hbz := three_cells st.out.box
      have hrz := fun p q r => three_all ((X.below.block _ (by omega : w.heap.size < W.heap.size)).trans HWH.out) p q r
      have HHI := hide hHI
      have HN := hide (show ropeE fracOk (LB.map bs) = some (RopeD.plain ⟨nm, ⟨A3, cap3, l⟩, u⟩) by
        rw [HRU2.out, ha.out.done (by rw [List.length_map]; exact hlk)]; rfl)
      clear hHI
      go_wp2
      refine bodyPost_ret (by simp [results, Tryz.results43, go_sem, hrz]; try rfl) rfl ?_
      refine ⟨⟨nm, ⟨A3, cap3, l⟩, u⟩, true, rfl, HFIN.out X _ _ _, ⟨by show nm.size ≤ maxLen; unfold maxLen; omega, hok.out⟩, Or.inl ⟨rfl, HN.out, ?_⟩⟩
      obtain ⟨g, h1, h2, h3, h4⟩ := HHI.out
      refine ⟨g, h1, by omega, h3.of_block ?_, h4⟩
      have hne : g ≠ w.heap.size := by omega
      rw [RowKit.Below.heap_setCell _ _ _ _ hne, RowKit.Below.heap_setCell _ _ _ _ hne, RowKit.Below.heap_setCell _ _ _ _ hne]
end Go.Proofs.YtgamhdbcejkllaaGreatDoor
