/- loftblockref31.Writable: it says which sheets can be written. loftblockref31.Text; loftblocklaw31.SourceTexts: the walk of the law. -/
import Derived.Test.YtnjbfhfjdhfdlaaGreatDoorSrcWrit
import Derived.Test.YtnjbfhfjdhfdlaaGreatDoorSrcRefSh
import Derived.Test.YtnjbfhfjdhfdlaaGreatDoorRefHouse
import Derived.Test.YtnjbfhfjdhfdlaaGreatDoorSrcSmall
namespace Go.Proofs.YtnjbfhfjdhfdlaaGreatDoor
open Go Go.RowKit

theorem fits_any (n : Int) (w : World) : Calls Tryz.prog 40 #[.int .i64 n] w (Gives w (.bool (shortB n))) := by
  by_cases h1 : -999999999999999 ≤ n
  · by_cases h2 : n ≤ 999999999999999
    · have e : shortB n = true := by simp [shortB]; omega
      rw [e]
      go_enter Tryz.func40, Tryz.ntmps40
      go_wp2
      go_ret
      exact Gives.mk rfl (Below.refl _ _)
    · have e : shortB n = false := by simp [shortB]; omega
      rw [e]
      go_enter Tryz.func40, Tryz.ntmps40
      go_wp2
      go_ret
      exact Gives.mk rfl (Below.refl _ _)
  · have e : shortB n = false := by simp [shortB]; omega
    rw [e]
    go_enter Tryz.func40, Tryz.ntmps40
    go_wp2
    go_ret
    exact Gives.mk rfl (Below.refl _ _)
theorem movesN_take (l : List CueD) (k : Nat) : movesN (l.take k) ≤ movesN l := by
  have h : movesN (l.take k ++ l.drop k) = movesN (l.take k) + movesN (l.drop k) := by
    unfold movesN
    rw [List.map_append, List.sum_append]
  rw [List.take_append_drop] at h
  omega
theorem sheetB_moves {s : SheetD} {k : Nat} (h : 100 < movesN (s.cues.l.take k)) : sheetB s = false := by
  have h2 := movesN_take s.cues.l k
  unfold sheetB
  rw [decide_eq_false (by omega : ¬ movesN s.cues.l ≤ 100)]
  simp
theorem sheetB_pair {s : SheetD} {k : Nat} {p : ByteArray × ByteArray} (h : s.apart.l[k]? = some p) (hp : pairB p = false) : sheetB s = false := by
  unfold sheetB
  rw [all_no h hp]
  simp
theorem sheetB_yes {s : SheetD} {k j : Nat} (h1 : s.cues.l.length ≤ 60) (h2 : s.apart.l.length ≤ 1000) (hk : s.cues.l.length ≤ k) (hu : UpTo (fun _ (q : CueD) => cueB q.pl) s.cues.l k) (hm : movesN (s.cues.l.take k) ≤ 100) (hj : s.apart.l.length ≤ j) (hp : UpTo (fun _ p => pairB p) s.apart.l j) : sheetB s = true := by
  rw [List.take_of_length_le hk] at hm
  unfold sheetB
  rw [upTo_all (p := fun q : CueD => cueB q.pl) hu hk, upTo_all (p := pairB) hp hj, decide_eq_true h1, decide_eq_true h2, decide_eq_true hm]
  rfl
set_option maxRecDepth 100000 in
set_option maxHeartbeats 16000000 in
theorem refWritable_any (s : SheetD) (hok : s.ok) (w : World) (B : Nat) (hB : B ≤ w.heap.size) (hat : SheetD.at_ w B s) (hmv : ∀ q ∈ s.cues.l, q.moves.l.length ≤ 1000000) :
    Calls Tryz.prog 13 #[.agg #[.slice s.cues.A s.cues.l.length s.cues.cap, .slice s.apart.A s.apart.l.length s.apart.cap]] w (Gives w (.bool (sheetB s))) := by
  obtain ⟨W, hW, hWs, hWb, hWh⟩ := boxed w (.cells #[.slice s.cues.A s.cues.l.length s.cues.cap, .slice s.apart.A s.apart.l.length s.apart.cap] 29)
  have hc := fun y : After W.heap.size W => SheetD.boxed hWh (by omega) y
  have hbd : ∀ y : After W.heap.size W, Below w.heap.size w y.val := fun y => hWb.trans (y.below.mono (by omega))
  have hatW : SheetD.at_ W W.heap.size s := hat.to (hWb.mono hB) (by omega)
  have hm : s.cues.cap ≤ 9223372036854775807 := hat.cues.2.1
  have hlc : s.cues.l.length ≤ s.cues.cap := hat.cues.1
  have hm2 : s.apart.cap ≤ 9223372036854775807 := hat.apart.2.1
  have hlc2 : s.apart.l.length ≤ s.apart.cap := hat.apart.1
  have HAT := hide hatW
  have HOK := hide hok
  have HW := hide hW
  have HBD := hide hbd
  clear hW hWh hWb hbd hatW hat hok hWs
  have hc0 := hc (After.refl _ _)
  simp only [After.refl] at hc0
  by_cases hn1 : 60 < (s.cues.l.length : Int)
  · have HNO := hide (sheetB_head (s := s) (by omega))
    go_enter Tryz.func13, Tryz.ntmps13
    go_upto_region 1 with fail
    rw [← HW.out]
    go_wp2_with fail
    go_ret
    exact Gives.mk (congrArg Value.bool HNO.out.symm) (HBD.out (After.refl _ _))
  by_cases hn2 : 1000 < (s.apart.l.length : Int)
  · have HNO := hide (sheetB_head (s := s) (by omega))
    go_enter Tryz.func13, Tryz.ntmps13
    go_upto_region 1 with fail
    rw [← HW.out]
    go_wp2_with fail
    go_ret
    exact Gives.mk (congrArg Value.bool HNO.out.symm) (HBD.out (After.refl _ _))
  have HNO := hide (fun (k : Nat) (q : CueD) (h : s.cues.l[k]? = some q) (hq : cueB q.pl = false) => sheetB_cue h hq)
  have HNM := hide (fun (k : Nat) (h : 100 < movesN (s.cues.l.take k)) => sheetB_moves (s := s) h)
  have HNP := hide (fun (k : Nat) (p : ByteArray × ByteArray) (h : s.apart.l[k]? = some p) (hp : pairB p = false) => sheetB_pair h hp)
  have HMV := hide (fun k => movesN_le (s.cues.l.take k) 1000000 (fun q hq => hmv q (List.mem_of_mem_take hq)))
  have HYES := hide (fun (k j : Nat) hk hu hmm hj hp => sheetB_yes (s := s) (k := k) (j := j) (by omega) (by omega) hk hu hmm hj hp)
  have HML := hide hmv
  clear hmv
  obtain ⟨r, hr⟩ : ∃ r, r = sheetB s := ⟨_, rfl⟩
  rw [← hr] at HNO HNM HNP HYES ⊢
  clear hr
  obtain ⟨⟨A, cap, l⟩, ⟨pA, pcap, pl⟩⟩ := s
  simp only at *
  go_enter Tryz.func13, Tryz.ntmps13
  go_upto_region 1 with fail
  rw [← HW.out]
  go_wp2_with fail
  go_loopw [3, 4] (fun v3 v wr => ∃ k : Nat, v = .int .i64 k ∧ v3 = .int .i64 (movesN (l.take k)) ∧ k ≤ l.length ∧ movesN (l.take k) ≤ 100 ∧ Hid (UpTo (fun _ (q : CueD) => cueB q.pl) l k) ∧ ∃ x : After W.heap.size W, wr = x.val) (fun _ v _ => l.length - (intOf v).toNat)
  case atStart => exact ⟨0, rfl, rfl, Nat.zero_le _, by simp [movesN], hide (UpTo.zero _ _), After.refl _ _, rfl⟩
  case round =>
    obtain ⟨k, rfl, rfl, hk, hmk0, hall, x, rfl⟩ := hrel
    have hcx := hc x
    by_cases hlt : k < l.length
    · obtain ⟨b, off, hA, hb, hcell⟩ := HAT.out.cues.2.2 (show 0 < l.length by omega)
      simp only at hA
      subst hA
      obtain ⟨q, hx⟩ : ∃ q, l[k]? = some q := ⟨l[k], List.getElem?_eq_getElem hlt⟩
      have hmem : q ∈ l := List.mem_of_getElem? hx
      have he := CueD.elem hx hb hcell x
      have hatq := HAT.out.each q hmem
      have hokq := HOK.out.cues q hmem
      have HX := hide hx
      have HNOK := hide (fun hq => HNO.out k q hx hq)
      have HSN := hide (movesN_snoc l k q hx)
      have hml1 : q.moves.l.length ≤ 1000000 := HML.out q hmem
      clear hcell hx hmem
      obtain ⟨nm, af, lk, dl, ⟨mA, mc, ml⟩, cr, pw⟩ := q
      simp only at *
      have hmc : mc ≤ 9223372036854775807 := hatq.moves.2.1
      have hmlc : ml.length ≤ mc := hatq.moves.1
      have hnm := hokq.name
      have haf := hokq.after
      simp only at hnm haf
      obtain ⟨V, hV, hVs, hVb, hVh⟩ := boxed x.val (.cells #[.string nm, .string af, .int .i64 lk, .int .i64 dl, .slice mA ml.length mc, .int .i64 cr, .int .i64 pw] 80)
      have hcq := fun y : After V.heap.size V => CueD.boxed (q := ⟨nm, af, lk, dl, ⟨mA, mc, ml⟩, cr, pw⟩) hVh (by omega) y
      simp only at hcq
      have hcq0 := hcq (After.refl _ _)
      simp only [After.refl] at hcq0
      have hbV : ∀ y : After V.heap.size V, Below W.heap.size W y.val := fun y => x.below.trans ((hVb.mono x.size).trans (y.below.mono (by have := x.size; omega)))
      have hcy := fun y : After V.heap.size V => hc ⟨y.val, hbV y⟩
      simp only at hcy
      have HV := hide hV
      have HBV := hide hbV
      have HATM := hide (hatq.moves.to (hbV (After.refl _ _)) (show W.heap.size ≤ V.heap.size by have := x.size; omega))
      simp only [After.refl] at HATM
      have HOKQ := hide hokq
      have HRET := hide (fun (z : After V.heap.size V) (h : r = false) => (Gives.mk (congrArg Value.bool h.symm) (HBD.out ⟨z.val, hbV z⟩) : Gives w (.bool r) (.returned (.bool false)) z.val))
      have KN := hide (fun (n : ByteArray) (hn : n.size ≤ maxLen) (z : After V.heap.size V) => Gives.after (x := z) (Nat.le_refl _) (refIsName_any n z.val hn))
      have KF := hide (fun (n : Int) (z : After V.heap.size V) => Gives.after (x := z) (Nat.le_refl _) (fits_any n z.val))
      clear hV hVs hVb hVh hbV hatq hokq
      have hsum : IntKind.i64.wrap ((movesN (l.take k) : Int) + (ml.length : Int)) = ((movesN (l.take (k + 1)) : Nat) : Int) := by
        have h1 : movesN (l.take (k + 1)) = movesN (l.take k) + ml.length := HSN.out
        rw [h1, IntKind.wrap_i64]
        omega
      go_upto_region 8 with fail
      rw [← HV.out]
      by_cases g1 : 100 < (movesN (l.take (k + 1)) : Int)
      · go_wp2_with fail
        go_ret
        exact HRET.out (After.refl _ _) (HNM.out (k + 1) (by omega))
      cases g2 : isName nm
      · go_wp2_with (go_at_call 39; refine (KN.out nm hnm (After.refl _ _)).mono ?_; rintro e w' ⟨rfl, z, rfl⟩; rw [g2])
        go_ret
        exact HRET.out z (HNOK.out (cueB_head (by simp [cueHeadB, g2])))
      by_cases g3 : lk < 1
      · go_wp2_with (go_at_call 39; refine (KN.out nm hnm (After.refl _ _)).mono ?_; rintro e w' ⟨rfl, z, rfl⟩; rw [g2]; have hz := hcq z)
        go_ret
        exact HRET.out z (HNOK.out (cueB_head (by
          have h1 : ¬ lk = 1 := by omega
          have h2 : ¬ lk = 2 := by omega
          have h3 : ¬ lk = 3 := by omega
          simp [cueHeadB, afterB, h1, h2, h3])))
      by_cases g4 : 3 < lk
      · go_wp2_with (go_at_call 39; refine (KN.out nm hnm (After.refl _ _)).mono ?_; rintro e w' ⟨rfl, z, rfl⟩; rw [g2]; have hz := hcq z)
        go_ret
        exact HRET.out z (HNOK.out (cueB_head (by
          have h1 : ¬ lk = 1 := by omega
          have h2 : ¬ lk = 2 := by omega
          have h3 : ¬ lk = 3 := by omega
          simp [cueHeadB, afterB, h1, h2, h3])))
      cases g5 : shortB dl
      · go_wp2_with (first
          | (go_at_call 39; refine (KN.out nm hnm (After.refl _ _)).mono ?_; rintro e w' ⟨rfl, z, rfl⟩; rw [g2]; have hz := hcq z)
          | (go_at_call 40; refine (KF.out dl z).mono ?_; rintro e w' ⟨rfl, z2, rfl⟩; rw [g5]; have hz2 := hcq z2))
        go_ret
        exact HRET.out z2 (HNOK.out (cueB_head (by simp [cueHeadB, g5])))
      cases g6 : shortB cr
      · go_wp2_with (first
          | (go_at_call 39; refine (KN.out nm hnm (After.refl _ _)).mono ?_; rintro e w' ⟨rfl, z, rfl⟩; rw [g2]; have hz := hcq z)
          | (go_at_call 40; refine (KF.out cr z2).mono ?_; rintro e w' ⟨rfl, z3, rfl⟩; rw [g6]; have hz3 := hcq z3)
          | (go_at_call 40; refine (KF.out dl z).mono ?_; rintro e w' ⟨rfl, z2, rfl⟩; rw [g5]; have hz2 := hcq z2))
        go_ret
        exact HRET.out z3 (HNOK.out (cueB_head (by simp [cueHeadB, g6])))
      cases g7 : shortB pw
      · go_wp2_with (first
          | (go_at_call 39; refine (KN.out nm hnm (After.refl _ _)).mono ?_; rintro e w' ⟨rfl, z, rfl⟩; rw [g2]; have hz := hcq z)
          | (go_at_call 40; refine (KF.out pw z3).mono ?_; rintro e w' ⟨rfl, z4, rfl⟩; rw [g7]; have hz4 := hcq z4)
          | (go_at_call 40; refine (KF.out cr z2).mono ?_; rintro e w' ⟨rfl, z3, rfl⟩; rw [g6]; have hz3 := hcq z3)
          | (go_at_call 40; refine (KF.out dl z).mono ?_; rintro e w' ⟨rfl, z2, rfl⟩; rw [g5]; have hz2 := hcq z2))
        go_ret
        exact HRET.out z4 (HNOK.out (cueB_head (by simp [cueHeadB, g7])))
      go_upto_region 11 with (first
          | (go_at_call 39; refine (KN.out nm hnm (After.refl _ _)).mono ?_; rintro e w' ⟨rfl, z, rfl⟩; rw [g2]; have hz := hcq z)
          | (go_at_call 40; refine (KF.out pw z3).mono ?_; rintro e w' ⟨rfl, z4, rfl⟩; rw [g7]; have hz4 := hcq z4)
          | (go_at_call 40; refine (KF.out cr z2).mono ?_; rintro e w' ⟨rfl, z3, rfl⟩; rw [g6]; have hz3 := hcq z3)
          | (go_at_call 40; refine (KF.out dl z).mono ?_; rintro e w' ⟨rfl, z2, rfl⟩; rw [g5]; have hz2 := hcq z2))
      clear hz hz2 hz3
      go_cut [90] (fun a wx => a = .bool (!afterB lk af) ∧ ∃ z : After V.heap.size V, wx = z.val)
      case first =>
        by_cases h1 : lk = 1
        · have b1 : (lk == 1) = true := by simp [h1]
          have b2 : (lk == 2) = false := by simp [h1]
          have b3 : (lk == 3) = false := by simp [h1]
          cases h4 : (af.toList == [])
          · go_wp2_with fail
            go_meet
            exact ⟨by simp [afterB, b1, b2, b3, h4], z4, rfl⟩
          · go_wp2_with fail
            go_meet
            exact ⟨by simp [afterB, b1, h4], z4, rfl⟩
        · have b1 : (lk == 1) = false := by simpa using h1
          have b23 : ((lk == 2) || (lk == 3)) = true := by
            have : lk = 2 ∨ lk = 3 := by omega
            rcases this with h | h <;> simp [h]
          cases h4 : isName af
          · go_wp2_with (go_at_call 39; refine (KN.out af haf z4).mono ?_; rintro e w' ⟨rfl, z5, rfl⟩; rw [h4])
            go_meet
            exact ⟨by simp [afterB, b1, b23, h4, h1], z5, rfl⟩
          · go_wp2_with (go_at_call 39; refine (KN.out af haf z4).mono ?_; rintro e w' ⟨rfl, z5, rfl⟩; rw [h4])
            go_meet
            exact ⟨by simp [afterB, b1, b23, h4], z5, rfl⟩
      case rest =>
        obtain ⟨rfl, z, rfl⟩ := hcut
        have hz := hcq z
        cases h8 : afterB lk af
        · go_wp2_with fail
          go_ret
          exact HRET.out z (HNOK.out (cueB_head (by simp [cueHeadB, h8])))
        have hhead : cueHeadB nm af lk dl cr pw = true := by simp [cueHeadB, g2, g5, g6, g7, h8]
        have HHEAD := hide hhead
        clear hhead
        go_wp2_with fail
        go_loopw [6] (fun v wr => ∃ j : Nat, v = .int .i64 j ∧ j ≤ ml.length ∧ Hid (UpTo (fun _ m => moveB m) ml j) ∧ ∃ y : After V.heap.size V, wr = y.val) (fun v _ => ml.length - (intOf v).toNat)
        case atStart => exact ⟨0, rfl, Nat.zero_le _, hide (UpTo.zero _ _), z, rfl⟩
        case round =>
          obtain ⟨j, rfl, hj, hmall, y, rfl⟩ := hrel
          have hzy := hcq y
          by_cases hlt2 : j < ml.length
          · obtain ⟨b2, off2, hA2, hb2, hcell2⟩ := HATM.out.2.2 (show 0 < ml.length by omega)
            simp only at hA2
            subst hA2
            obtain ⟨m, hx2⟩ : ∃ m, ml[j]? = some m := ⟨ml[j], List.getElem?_eq_getElem hlt2⟩
            have he2 := MoveD.elem hx2 hb2 hcell2 y
            have hmo := (HOKQ.out.moves m (List.mem_of_getElem? hx2)).set
            have HNOM := hide (fun (h : moveB m = false) => HNOK.out (cueB_move (q := ⟨nm, af, lk, dl, ⟨_, mc, ml⟩, cr, pw⟩) hx2 h))
            have HX2 := hide hx2
            clear hcell2 hx2
            obtain ⟨U, hU, hUs, hUb, hUh⟩ := boxed y.val (.cells #[.string m.set, .int .i64 m.to, .int .i64 m.speed, .int .i64 m.rise, .int .i64 m.fall] 82)
            have hcm := fun u : After U.heap.size U => MoveD.boxed hUh (by omega) u
            have hcm0 := hcm (After.refl _ _)
            simp only [After.refl] at hcm0
            have HBU := hide (fun u : After U.heap.size U => (show Below V.heap.size V u.val from y.below.trans ((hUb.mono y.size).trans (u.below.mono (by have := y.size; omega)))))
            have KN2 := hide (fun (n : ByteArray) (hn : n.size ≤ maxLen) (u : After U.heap.size U) => Gives.after (x := u) (Nat.le_refl _) (refIsName_any n u.val hn))
            have KF2 := hide (fun (n : Int) (u : After U.heap.size U) => Gives.after (x := u) (Nat.le_refl _) (fits_any n u.val))
            have HU := hide hU
            clear hU hUs hUb hUh
            go_upto_region 17 with fail
            rw [← HU.out]
            cases k1 : isName m.set
            · go_wp2_with (go_at_call 39; refine (KN2.out m.set hmo (After.refl _ _)).mono ?_; rintro e w' ⟨rfl, u1, rfl⟩; rw [k1])
              go_ret
              exact HRET.out ⟨_, HBU.out u1⟩ (HNOM.out (by simp [moveB, k1]))
            cases k2 : shortB m.to
            · go_wp2_with (first
                | (go_at_call 39; refine (KN2.out m.set hmo (After.refl _ _)).mono ?_; rintro e w' ⟨rfl, u1, rfl⟩; rw [k1]; have hu1 := hcm u1)
                | (go_at_call 40; refine (KF2.out m.to u1).mono ?_; rintro e w' ⟨rfl, u2, rfl⟩; rw [k2]; have hu2 := hcm u2))
              go_ret
              exact HRET.out ⟨_, HBU.out u2⟩ (HNOM.out (by simp [moveB, k2]))
            cases k3 : shortB m.speed
            · go_wp2_with (first
                | (go_at_call 39; refine (KN2.out m.set hmo (After.refl _ _)).mono ?_; rintro e w' ⟨rfl, u1, rfl⟩; rw [k1]; have hu1 := hcm u1)
                | (go_at_call 40; refine (KF2.out m.speed u2).mono ?_; rintro e w' ⟨rfl, u3, rfl⟩; rw [k3]; have hu3 := hcm u3)
                | (go_at_call 40; refine (KF2.out m.to u1).mono ?_; rintro e w' ⟨rfl, u2, rfl⟩; rw [k2]; have hu2 := hcm u2))
              go_ret
              exact HRET.out ⟨_, HBU.out u3⟩ (HNOM.out (by simp [moveB, k3]))
            cases k4 : shortB m.rise
            · go_wp2_with (first
                | (go_at_call 39; refine (KN2.out m.set hmo (After.refl _ _)).mono ?_; rintro e w' ⟨rfl, u1, rfl⟩; rw [k1]; have hu1 := hcm u1)
                | (go_at_call 40; refine (KF2.out m.rise u3).mono ?_; rintro e w' ⟨rfl, u4, rfl⟩; rw [k4]; have hu4 := hcm u4)
                | (go_at_call 40; refine (KF2.out m.speed u2).mono ?_; rintro e w' ⟨rfl, u3, rfl⟩; rw [k3]; have hu3 := hcm u3)
                | (go_at_call 40; refine (KF2.out m.to u1).mono ?_; rintro e w' ⟨rfl, u2, rfl⟩; rw [k2]; have hu2 := hcm u2))
              go_ret
              exact HRET.out ⟨_, HBU.out u4⟩ (HNOM.out (by simp [moveB, k4]))
            cases k5 : shortB m.fall
            all_goals
              go_wp2_with (first
                | (go_at_call 39; refine (KN2.out m.set hmo (After.refl _ _)).mono ?_; rintro e w' ⟨rfl, u1, rfl⟩; rw [k1]; have hu1 := hcm u1)
                | (go_at_call 40; refine (KF2.out m.fall u4).mono ?_; rintro e w' ⟨rfl, u5, rfl⟩; rw [k5]; have hu5 := hcm u5)
                | (go_at_call 40; refine (KF2.out m.rise u3).mono ?_; rintro e w' ⟨rfl, u4, rfl⟩; rw [k4]; have hu4 := hcm u4)
                | (go_at_call 40; refine (KF2.out m.speed u2).mono ?_; rintro e w' ⟨rfl, u3, rfl⟩; rw [k3]; have hu3 := hcm u3)
                | (go_at_call 40; refine (KF2.out m.to u1).mono ?_; rintro e w' ⟨rfl, u2, rfl⟩; rw [k2]; have hu2 := hcm u2))
            · go_ret
              exact HRET.out ⟨_, HBU.out u5⟩ (HNOM.out (by simp [moveB, k5]))
            · have HMJ := hide (hmall.out.next HX2.out (by simp [moveB, k1, k2, k3, k4, k5]))
              go_simp
              exact ⟨⟨j + 1, by go_num, by omega, HMJ, ⟨_, HBU.out u5⟩, rfl⟩, by simp [intOf]; omega⟩
          · have hj2 : ml.length ≤ j := by omega
            have HCB := hide (cueB_yes (q := ⟨nm, af, lk, dl, ⟨mA, mc, ml⟩, cr, pw⟩) HHEAD.out (upTo_all (l := ml) hmall.out hj2))
            go_wp2_with fail
            exact ⟨⟨k + 1, by go_num, rfl, by omega, by omega, hide (hall.out.next HX.out HCB.out), ⟨y.val, HBV.out y⟩, rfl⟩, by simp [intOf]; omega⟩
    · have HLK := hide (show l.length ≤ k by omega)
      go_wp2_with fail
      go_loopw [8] (fun v wr => ∃ j : Nat, v = .int .i64 j ∧ j ≤ pl.length ∧ Hid (UpTo (fun _ p => pairB p) pl j) ∧ ∃ y : After W.heap.size W, wr = y.val) (fun v _ => pl.length - (intOf v).toNat)
      case atStart => exact ⟨0, rfl, Nat.zero_le _, hide (UpTo.zero _ _), x, rfl⟩
      case round =>
        obtain ⟨j, rfl, hj, hpall, y, rfl⟩ := hrel
        have hcy := hc y
        by_cases hlt2 : j < pl.length
        · obtain ⟨b2, off2, hA2, hb2, hcell2⟩ := HAT.out.apart.2.2 (show 0 < pl.length by omega)
          simp only at hA2
          subst hA2
          obtain ⟨⟨p1, p2⟩, hx2⟩ : ∃ m, pl[j]? = some m := ⟨pl[j], List.getElem?_eq_getElem hlt2⟩
          have he2 := fun y : After W.heap.size W => pairElem hx2 hb2 hcell2 y
          have he20 := he2 y
          simp only at he20
          obtain ⟨ho1, ho2⟩ := HOK.out.apart _ (List.mem_of_getElem? hx2)
          simp only at ho1 ho2
          have HNP2 := hide (fun h => HNP.out j _ hx2 h)
          have HX2 := hide hx2
          have KN := hide (fun (n : ByteArray) (hn : n.size ≤ maxLen) (z : After W.heap.size W) => Gives.after (x := z) (Nat.le_refl _) (refIsName_any n z.val hn))
          clear hcell2 hx2
          cases k1 : isName p1
          · go_wp2_with (go_at_call 39; refine (KN.out p1 ho1 y).mono ?_; rintro e w' ⟨rfl, u1, rfl⟩; rw [k1])
            go_ret
            exact Gives.mk (congrArg Value.bool (HNP2.out (by simp [pairB, k1])).symm) (HBD.out u1)
          cases k2 : isName p2
          all_goals
            go_wp2_with (first
              | (go_at_call 39; refine (KN.out p2 ho2 u1).mono ?_; rintro e w' ⟨rfl, u2, rfl⟩; rw [k2])
              | (go_at_call 39; refine (KN.out p1 ho1 y).mono ?_; rintro e w' ⟨rfl, u1, rfl⟩; rw [k1]; have hu1 := hc u1; have hu1' := he2 u1))
          · go_ret
            exact Gives.mk (congrArg Value.bool (HNP2.out (by simp [pairB, k2])).symm) (HBD.out u2)
          · exact ⟨⟨j + 1, by go_num, by omega, hide (hpall.out.next HX2.out (by simp [pairB, k1, k2])), u2, rfl⟩, by simp [intOf]; omega⟩
        · have HYY := hide (HYES.out k j HLK.out hall.out hmk0 (by omega) hpall.out)
          go_wp2_with fail
          go_ret
          exact Gives.mk (congrArg Value.bool HYY.out.symm) (HBD.out y)
end Go.Proofs.YtnjbfhfjdhfdlaaGreatDoor
namespace Go.Proofs.YtnjbfhfjdhfdlaaGreatDoor
open Go Go.RowKit

set_option maxRecDepth 100000 in
set_option maxHeartbeats 8000000 in
theorem refText_any (h : HouseD) (s : SheetD) (hok : h.ok) (sok : s.ok) (hmv : ∀ q ∈ s.cues.l, q.moves.l.length ≤ 1000000) (w : World) (B : Nat) (hB : B ≤ w.heap.size) (hat : HouseD.at_ w B h) (sat : SheetD.at_ w B s) :
    Calls Tryz.prog 11 #[.agg #[.string h.name, .int .i64 h.height, .slice h.sets.A h.sets.l.length h.sets.cap, .slice h.roofs.A h.roofs.l.length h.roofs.cap], .agg #[.slice s.cues.A s.cues.l.length s.cues.cap, .slice s.apart.A s.apart.l.length s.apart.cap]] w (Gives w (textV h.pl s.pl)) := by
  obtain ⟨W1, hW1, hs1, hb1, hh1⟩ := boxed w (.cells #[.string h.name, .int .i64 h.height, .slice h.sets.A h.sets.l.length h.sets.cap, .slice h.roofs.A h.roofs.l.length h.roofs.cap] 25)
  obtain ⟨W, hW2, hs2, hb2, hh2⟩ := boxed W1 (.cells #[.slice s.cues.A s.cues.l.length s.cues.cap, .slice s.apart.A s.apart.l.length s.apart.cap] 29)
  have hb : Below w.heap.size w W := hb1.trans (hb2.mono (by omega))
  have hh1' := (hb2.block _ (by omega)).trans hh1
  rw [hs1] at hh2
  have hc := fun y : After W.heap.size W => And.intro (HouseD.boxed hh1' (by omega) y) (SheetD.boxed hh2 (by omega) y)
  have hc0 := hc (After.refl _ _)
  simp only [After.refl] at hc0
  have hbd : ∀ y : After W.heap.size W, Below w.heap.size w y.val := fun y => hb.trans (y.below.mono (by omega))
  have hatW := hat.to (hb.mono hB) (show B ≤ W.heap.size by omega)
  have satW := sat.to (hb.mono hB) (show B ≤ W.heap.size by omega)
  have KV := hide (Gives.first (refHouse_any h hok W W.heap.size (Nat.le_refl _) hatW))
  have KW := hide (fun y : After W.heap.size W => Gives.after (x := y) (Nat.le_refl _) (refWritable_any s sok y.val W.heap.size y.size (satW.to y.below (Nat.le_refl _)) hmv))
  have HAT := hide (And.intro hatW satW)
  have HBD := hide hbd
  have HW := hide (show (w.alloc (.cells #[.string h.name, .int .i64 h.height, .slice h.sets.A h.sets.l.length h.sets.cap, .slice h.roofs.A h.roofs.l.length h.roofs.cap] 25)).alloc (.cells #[.slice s.cues.A s.cues.l.length s.cues.cap, .slice s.apart.A s.apart.l.length s.apart.cap] 29) = W by rw [← hW1, ← hW2])
  have e1 := houseOk_plain h
  have e2 := sheetB_plain s
  clear hW1 hW2 hb1 hb2 hh1 hh2 hh1' hat sat hatW satW hb hbd hok sok hmv
  rw [e1] at KV
  rw [e2] at KW
  clear e1 e2
  cases hv : houseOkP h.pl
  · rw [hv] at KV
    have HV := hide (show textV h.pl s.pl = .tuple #[.string ⟨#[]⟩, .int .i64 1] by unfold textV; rw [hv]; rfl)
    clear hv KW
    go_enter Tryz.func11, Tryz.ntmps11
    go_upto_region 1 with fail
    rw [HW.out]
    go_wp2_with (go_at_call 32; refine KV.out.mono ?_; rintro e w' ⟨rfl, y, rfl⟩)
    go_ret2
    exact Gives.mk HV.out.symm (HBD.out y)
  cases sv : sheetOkP s.pl
  · rw [hv] at KV
    rw [sv] at KW
    have HV := hide (show textV h.pl s.pl = .tuple #[.string ⟨#[]⟩, .int .i64 1] by unfold textV; rw [hv, sv]; rfl)
    clear hv sv
    go_enter Tryz.func11, Tryz.ntmps11
    go_upto_region 1 with fail
    rw [HW.out]
    go_wp2_with (first
      | (go_at_call 32; refine KV.out.mono ?_; rintro e w' ⟨rfl, y, rfl⟩; have hcy := hc y)
      | (go_at_call 13; refine (KW.out y).mono ?_; rintro e w' ⟨rfl, y2, rfl⟩))
    go_ret2
    exact Gives.mk HV.out.symm (HBD.out y2)
  · rw [hv] at KV
    rw [sv] at KW
    have hlen := text_len hv sv
    have hparts := textP_parts h.pl s.pl
    have hl2 : (houseT h.pl).length + (sheetT s.pl).length ≤ 5000000 := by
      rw [hparts, List.length_append] at hlen; exact hlen
    have KH := hide (fun y : After W.heap.size W => Gives.after (x := y) (Nat.le_refl _) (refHouseT_any h hv (by omega) y.val W.heap.size y.size (HAT.out.1.to y.below (Nat.le_refl _))))
    have KS := hide (fun y : After W.heap.size W => Gives.after (x := y) (Nat.le_refl _) (refSheetT_any s sv (by omega) y.val W.heap.size y.size (HAT.out.2.to y.below (Nat.le_refl _))))
    obtain ⟨T1, hT1⟩ : ∃ T : ByteArray, T = ⟨(houseT h.pl).toArray⟩ := ⟨_, rfl⟩
    obtain ⟨T2, hT2⟩ : ∃ T : ByteArray, T = ⟨(sheetT s.pl).toArray⟩ := ⟨_, rfl⟩
    have z1 : T1.size = (houseT h.pl).length := by rw [hT1, ← bs_length, bs_of]
    have z2 : T2.size = (sheetT s.pl).length := by rw [hT2, ← bs_length, bs_of]
    have hTT : T1 ++ T2 = ⟨(textP h.pl s.pl).toArray⟩ := by
      apply bs_inj
      rw [bs_add, hT1, hT2, bs_of, bs_of, bs_of, hparts]
    have HV := hide (show textV h.pl s.pl = textE (textP h.pl s.pl) by unfold textV; rw [hv, sv]; rfl)
    have HTT := hide hTT
    have hsz : (textP h.pl s.pl).length = T1.size + T2.size := by rw [hparts, List.length_append, z1, z2]
    have HSZ := hide hsz
    have hnb : ¬ 9223372036854775807 < T1.size + T2.size := by omega
    rw [← hT1] at KH
    rw [← hT2] at KS
    clear hv sv hlen hparts hl2 hT1 hT2 z1 z2 hTT hsz
    go_enter Tryz.func11, Tryz.ntmps11
    go_upto_region 1 with fail
    rw [HW.out]
    go_upto_region 3 with (first
      | (go_at_call 32; refine KV.out.mono ?_; rintro e w' ⟨rfl, y, rfl⟩; have hcy := hc y)
      | (go_at_call 13; refine (KW.out y).mono ?_; rintro e w' ⟨rfl, y2, rfl⟩; have hcy2 := hc y2))
    refine wp_region_after y2 (by kernel_rfl) (by kernel_rfl) ?_
    repeat (go_big_quiet_step (first | (go_at_call 33; exact KH.out _) | (go_at_call 34; exact KS.out _)))
    refine wpQuiet_nil ?_
    intro z
    by_cases hbig : (262144 : Int) < ((T1.size + T2.size : Nat) : Int)
    · have hbig2 : (262144 : Int) < (T1.size : Int) + (T2.size : Int) := by omega
      have HE := hide (show textV h.pl s.pl = .tuple #[.string ⟨#[]⟩, .int .i64 4] by rw [HV.out, textE, if_neg (by rw [HSZ.out]; omega)])
      go_wp2_with fail
      go_ret2
      exact Gives.mk HE.out.symm (HBD.out z)
    · have hbig2 : ¬ (262144 : Int) < (T1.size : Int) + (T2.size : Int) := by omega
      have HE := hide (show textV h.pl s.pl = .tuple #[.string (T1 ++ T2), .int .i64 0] by rw [HV.out, textE, if_pos (by rw [HSZ.out]; omega), HTT.out])
      go_wp2_with fail
      go_ret2
      exact Gives.mk HE.out.symm (HBD.out z)
theorem textV_shape (h : HouseP) (c : SheetP) : ∃ (T : ByteArray) (k : Int), textV h c = .tuple #[.string T, .int .i64 k] := by
  unfold textV textE
  cases houseOkP h && sheetOkP c with
  | false => exact ⟨_, _, rfl⟩
  | true =>
    by_cases hl : (textP h c).length ≤ 262144
    · exact ⟨_, _, by rw [if_pos rfl, if_pos hl]⟩
    · exact ⟨_, _, by rw [if_pos rfl, if_neg hl]⟩
set_option maxRecDepth 100000 in
set_option maxHeartbeats 16000000 in
theorem sourceTexts_any (h : HouseD) (s : SheetD) (hok : h.ok) (sok : s.ok) (w : World) (ht : TabsS w) (B : Nat) (hB : B ≤ w.heap.size) (hat : HouseD.at_ w B h) (sat : SheetD.at_ w B s) :
    Calls Tryz.prog 3 #[.agg #[.string h.name, .int .i64 h.height, .slice h.sets.A h.sets.l.length h.sets.cap, .slice h.roofs.A h.roofs.l.length h.roofs.cap], .agg #[.slice s.cues.A s.cues.l.length s.cues.cap, .slice s.apart.A s.apart.l.length s.apart.cap]] w (Gives w (.bool true)) := by
  obtain ⟨W1, hW1, hs1, hb1, hh1⟩ := boxed w (.cells #[.string h.name, .int .i64 h.height, .slice h.sets.A h.sets.l.length h.sets.cap, .slice h.roofs.A h.roofs.l.length h.roofs.cap] 25)
  obtain ⟨W, hW2, hs2, hb2, hh2⟩ := boxed W1 (.cells #[.slice s.cues.A s.cues.l.length s.cues.cap, .slice s.apart.A s.apart.l.length s.apart.cap] 29)
  have hb : Below w.heap.size w W := hb1.trans (hb2.mono (by omega))
  have hh1' := (hb2.block _ (by omega)).trans hh1
  rw [hs1] at hh2
  have hc := fun y : After W.heap.size W => And.intro (HouseD.boxed hh1' (by omega) y) (SheetD.boxed hh2 (by omega) y)
  have hbd : ∀ y : After W.heap.size W, Below w.heap.size w y.val := fun y => hb.trans (y.below.mono (by omega))
  have hatW := hat.to (hb.mono hB) (show B ≤ W.heap.size by omega)
  have satW := sat.to (hb.mono hB) (show B ≤ W.heap.size by omega)
  have htW := ht.below hb
  have KA := hide (Gives.first (awake31_any W htW))
  have KF := hide (fun y : After W.heap.size W => few_any h s y.val W.heap.size y.size (hatW.to y.below (Nat.le_refl _)) (satW.to y.below (Nat.le_refl _)))
  have KT := hide (fun (hmv : ∀ q ∈ s.cues.l, q.moves.l.length ≤ 20) (y : After W.heap.size W) => Gives.after (x := y) (Nat.le_refl _) (text_full h s hok sok (fun q hq => Nat.le_trans (hmv q hq) (by decide)) y.val (htW.below y.below).1 W.heap.size y.size (hatW.to y.below (Nat.le_refl _)) (satW.to y.below (Nat.le_refl _))))
  have KR := hide (fun (hmv : ∀ q ∈ s.cues.l, q.moves.l.length ≤ 20) (y : After W.heap.size W) => Gives.after (x := y) (Nat.le_refl _) (refText_any h s hok sok (fun q hq => Nat.le_trans (hmv q hq) (by decide)) y.val W.heap.size y.size (hatW.to y.below (Nat.le_refl _)) (satW.to y.below (Nat.le_refl _))))
  have KW := hide (fun (hmv : ∀ q ∈ s.cues.l, q.moves.l.length ≤ 20) (y : After W.heap.size W) => Gives.after (x := y) (Nat.le_refl _) (writable_any s sok y.val W.heap.size y.size (satW.to y.below (Nat.le_refl _)) (fun q hq => Nat.le_trans (hmv q hq) (by decide))))
  have KX := hide (fun (hmv : ∀ q ∈ s.cues.l, q.moves.l.length ≤ 20) (y : After W.heap.size W) => Gives.after (x := y) (Nat.le_refl _) (refWritable_any s sok y.val W.heap.size y.size (satW.to y.below (Nat.le_refl _)) (fun q hq => Nat.le_trans (hmv q hq) (by decide))))
  have HBD := hide hbd
  have HW := hide (show (w.alloc (.cells #[.string h.name, .int .i64 h.height, .slice h.sets.A h.sets.l.length h.sets.cap, .slice h.roofs.A h.roofs.l.length h.roofs.cap] 25)).alloc (.cells #[.slice s.cues.A s.cues.l.length s.cues.cap, .slice s.apart.A s.apart.l.length s.apart.cap] 29) = W by rw [← hW1, ← hW2])
  clear hW1 hW2 hb1 hb2 hh1 hh2 hh1' hat sat hatW satW hb hbd hok sok ht htW hs1 hs2
  go_enter Tryz.func3, Tryz.ntmps3
  go_upto_region 1 with fail
  rw [HW.out]
  go_wp2_with fail
  refine KA.out.mono ?_
  rintro e w' ⟨rfl, y, rfl⟩
  have hcy := hc y
  go_wp2_with fail
  refine (KF.out y).mono ?_
  rintro e w2 ⟨r, rfl, hbf, hmv0⟩
  obtain ⟨z, hz⟩ : ∃ z : After W.heap.size W, z.val = w2 := ⟨⟨w2, y.below.trans (hbf.mono y.size)⟩, rfl⟩
  rw [← hz]
  have hcz := hc z
  clear hbf hz
  cases r
  · go_wp2_with fail
    go_ret
    exact Gives.mk rfl (HBD.out z)
  have HMV := hide (hmv0 rfl)
  have KT2 := hide (KT.out HMV.out z)
  have KR2 := hide (KR.out HMV.out)
  have KW2 := hide (KW.out HMV.out)
  have KX2 := hide (KX.out HMV.out)
  clear hmv0 KT KR KW KX
  obtain ⟨T, k, hT⟩ := textV_shape h.pl s.pl
  rw [hT] at KT2 KR2
  obtain ⟨sb, hsb⟩ : ∃ b, b = sheetB s := ⟨_, rfl⟩
  rw [← hsb] at KW2 KX2
  clear hT hsb
  go_wp2_with fail
  refine KT2.out.mono ?_
  rintro e w' ⟨rfl, y1, rfl⟩
  have hcy1 := hc y1
  go_wp2_with fail
  refine (KR2.out y1).mono ?_
  rintro e w' ⟨rfl, y2, rfl⟩
  have hcy2 := hc y2
  have hTT : (T.toList == T.toList) = true := by simp
  have hkk : (k == k) = true := by simp
  go_upto_region 7 with fail
  refine wp_region_after y2 (by kernel_rfl) (by kernel_rfl) ?_
  repeat (go_big_quiet_step (first | (go_at_call 12; exact KW2.out _) | (go_at_call 13; exact KX2.out _)))
  refine wpQuiet_nil ?_
  intro z5
  go_wp2_with fail
  go_ret
  exact Gives.mk (by simp) (HBD.out z5)
end Go.Proofs.YtnjbfhfjdhfdlaaGreatDoor
