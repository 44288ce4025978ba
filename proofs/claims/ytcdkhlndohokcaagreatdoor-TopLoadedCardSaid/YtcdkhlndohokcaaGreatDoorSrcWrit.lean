/- source.Writable: which cue sheets can be written. -/
import Derived.Test.YtcdkhlndohokcaaGreatDoorSrcSheet
import Derived.Deep.DeepCutAuto
namespace Go.Proofs.YtcdkhlndohokcaaGreatDoor
open Go.RowKit

def afterB (link : Int) (after : ByteArray) : Bool := (link == 1 && after.toList == []) || ((link == 2 || link == 3) && isName after)
def moveB (m : MoveD) : Bool := isName m.set && [m.to, m.speed, m.rise, m.fall].all shortB
def cueHeadB (name after : ByteArray) (link delay crew power : Int) : Bool := isName name && afterB link after && [delay, crew, power].all shortB
def cueB (q : CueP) : Bool := cueHeadB q.name q.after q.link q.delay q.crew q.power && q.moves.all moveB
def movesN (l : List CueD) : Nat := (l.map fun q => q.moves.l.length).sum
def sheetB (s : SheetD) : Bool := decide (s.cues.l.length ≤ 60) && decide (s.apart.l.length ≤ 1000) && s.cues.l.all (fun q => cueB q.pl) && decide (movesN s.cues.l ≤ 100) && s.apart.l.all pairB
theorem all_no {α : Type} {p : α → Bool} {l : List α} {k : Nat} {x : α} (h : l[k]? = some x) (hp : p x = false) : l.all p = false := by
  rw [List.all_eq_false]
  exact ⟨x, List.mem_of_getElem? h, by simp [hp]⟩
theorem upTo_all {α : Type} {p : α → Bool} {l : List α} {k : Nat} (h : UpTo (fun _ x => p x) l k) (hk : l.length ≤ k) : l.all p = true := by
  rw [List.all_eq_true]
  intro x hx
  obtain ⟨j, hj, e⟩ := List.getElem_of_mem hx
  exact h j x (by omega) (by rw [List.getElem?_eq_getElem hj, e])
theorem movesN_snoc (l : List CueD) (k : Nat) (q : CueD) (h : l[k]? = some q) : movesN (l.take (k + 1)) = movesN (l.take k) + q.moves.l.length := by
  have hk : k < l.length := (List.getElem?_eq_some_iff.1 h).1
  have e : l[k] = q := (List.getElem?_eq_some_iff.1 h).2
  simp [movesN, List.take_succ_eq_append_getElem hk, e]
theorem movesN_le : ∀ (l : List CueD) (N : Nat), (∀ q ∈ l, q.moves.l.length ≤ N) → movesN l ≤ l.length * N
  | [], _, _ => by simp [movesN]
  | q :: l, N, h => by
    have h1 := movesN_le l N (fun q hq => h q (by simp [hq]))
    have h3 := h q (by simp)
    simp only [movesN, List.map_cons, List.sum_cons, List.length_cons] at h1 ⊢
    rw [Nat.add_mul, Nat.one_mul]
    omega
theorem shortOf3 (a b c : Int) (y : World) : Calls Tryz.prog 68 #[.slice (some ⟨y.heap.size, 0, none⟩) 3 3] (y.alloc (.cells #[.int .i64 a, .int .i64 b, .int .i64 c] 3 (0, 0))) (Gives y (.bool ([a, b, c].all shortB))) := by
  obtain ⟨V, hV, hVs, hVb, hVh⟩ := boxed y (.cells #[.int .i64 a, .int .i64 b, .int .i64 c] 3)
  rw [← hV]
  refine (short_any (some ⟨y.heap.size, 0, none⟩) 3 [a, b, c] V V.heap.size (Nat.le_refl _) (ints_at [a, b, c] (by simp) hVh)).mono ?_
  rintro e w' ⟨h1, h2⟩
  exact ⟨h1, hVb.trans (h2.mono (by omega))⟩
theorem shortOf4 (a b c d : Int) (y : World) : Calls Tryz.prog 68 #[.slice (some ⟨y.heap.size, 0, none⟩) 4 4] (y.alloc (.cells #[.int .i64 a, .int .i64 b, .int .i64 c, .int .i64 d] 3 (0, 0))) (Gives y (.bool ([a, b, c, d].all shortB))) := by
  obtain ⟨V, hV, hVs, hVb, hVh⟩ := boxed y (.cells #[.int .i64 a, .int .i64 b, .int .i64 c, .int .i64 d] 3)
  rw [← hV]
  refine (short_any (some ⟨y.heap.size, 0, none⟩) 4 [a, b, c, d] V V.heap.size (Nat.le_refl _) (ints_at [a, b, c, d] (by simp) hVh)).mono ?_
  rintro e w' ⟨h1, h2⟩
  exact ⟨h1, hVb.trans (h2.mono (by omega))⟩
theorem sheetB_head {s : SheetD} (h : ¬ (s.cues.l.length ≤ 60 ∧ s.apart.l.length ≤ 1000)) : sheetB s = false := by
  unfold sheetB
  by_cases h1 : s.cues.l.length ≤ 60
  · have h2 : ¬ s.apart.l.length ≤ 1000 := fun h2 => h ⟨h1, h2⟩
    simp [h2]
  · simp [h1]
theorem sheetB_cue {s : SheetD} {k : Nat} {q : CueD} (h : s.cues.l[k]? = some q) (hq : cueB q.pl = false) : sheetB s = false := by
  unfold sheetB
  rw [all_no (p := fun q => cueB q.pl) h hq]
  simp
theorem cueB_head {q : CueD} (h : cueHeadB q.name q.after q.link q.delay q.crew q.power = false) : cueB q.pl = false := by
  show (cueHeadB q.name q.after q.link q.delay q.crew q.power && _) = false
  rw [h]; rfl
theorem cueB_move {q : CueD} {k : Nat} {m : MoveD} (h : q.moves.l[k]? = some m) (hm : moveB m = false) : cueB q.pl = false := by
  show (cueHeadB q.name q.after q.link q.delay q.crew q.power && q.moves.l.all moveB) = false
  rw [all_no h hm]; simp
theorem cueB_yes {q : CueD} (h : cueHeadB q.name q.after q.link q.delay q.crew q.power = true) (hm : q.moves.l.all moveB = true) : cueB q.pl = true := by
  show (cueHeadB q.name q.after q.link q.delay q.crew q.power && q.moves.l.all moveB) = true
  rw [h, hm]; rfl
set_option maxHeartbeats 8000000 in
set_option maxRecDepth 100000 in
theorem writable_any (s : SheetD) (hok : s.ok) (w : World) (B : Nat) (hB : B ≤ w.heap.size) (hat : SheetD.at_ w B s) (hmv : ∀ q ∈ s.cues.l, q.moves.l.length ≤ 1000000) :
    Calls Tryz.prog 49 #[.agg #[.slice s.cues.A s.cues.l.length s.cues.cap, .slice s.apart.A s.apart.l.length s.apart.cap]] w (Gives w (.bool (sheetB s))) := by
  obtain ⟨W, hW, hWs, hWb, hWh⟩ := boxed w (.cells #[.slice s.cues.A s.cues.l.length s.cues.cap, .slice s.apart.A s.apart.l.length s.apart.cap] 60)
  have hc := fun y : After W.heap.size W => SheetD.boxed hWh (by omega) y
  have hbd : ∀ y : After W.heap.size W, Below w.heap.size w y.val := fun y => hWb.trans (y.below.mono (by omega))
  have hatW : SheetD.at_ W W.heap.size s := hat.to (hWb.mono hB) (by omega)
  have hm : s.cues.cap ≤ 9223372036854775807 := hat.cues.2.1
  have hlc : s.cues.l.length ≤ s.cues.cap := hat.cues.1
  have hm2 : s.apart.cap ≤ 9223372036854775807 := hat.apart.2.1
  have hlc2 : s.apart.l.length ≤ s.apart.cap := hat.apart.1
  have HAT := hide hatW
  have HOK := hide hok
  have HW := hide hW
  have HWs := hide hWs
  have HBD := hide hbd
  clear hW hWh hWb hbd hatW hat hok
  have hc0 := hc (After.refl _ _)
  simp only [After.refl] at hc0
  by_cases hn1 : 60 < (s.cues.l.length : Int)
  · have HNO := hide (sheetB_head (s := s) (by omega))
    go_enter Tryz.func49, Tryz.ntmps49
    go_upto_region 1 with fail
    rw [← HW.out]
    go_wp2_with fail
    go_ret
    exact Gives.mk (congrArg Value.bool HNO.out.symm) (HBD.out (After.refl _ _))
  · by_cases hn2 : 1000 < (s.apart.l.length : Int)
    · have HNO := hide (sheetB_head (s := s) (by omega))
      go_enter Tryz.func49, Tryz.ntmps49
      go_upto_region 1 with fail
      rw [← HW.out]
      go_wp2_with fail
      go_ret
      exact Gives.mk (congrArg Value.bool HNO.out.symm) (HBD.out (After.refl _ _))
    · have HNO := hide (fun (k : Nat) (q : CueD) (h : s.cues.l[k]? = some q) (hq : cueB q.pl = false) => sheetB_cue h hq)
      have HMV := hide (fun k => movesN_le (s.cues.l.take k) 1000000 (fun q hq => hmv q (List.mem_of_mem_take hq)))
      have HYES := hide (fun (k : Nat) (hk : s.cues.l.length ≤ k) (h : UpTo (fun _ (q : CueD) => cueB q.pl) s.cues.l k) => show sheetB s = (decide (movesN s.cues.l ≤ 100) && s.apart.l.all pairB) by
        unfold sheetB
        rw [upTo_all (p := fun q => cueB q.pl) h hk, decide_eq_true (by omega : s.cues.l.length ≤ 60), decide_eq_true (by omega : s.apart.l.length ≤ 1000)]
        simp)
      obtain ⟨r, hr⟩ : ∃ r, r = sheetB s := ⟨_, rfl⟩
      rw [← hr] at HNO HYES ⊢
      clear hr
      have HML := hide hmv
      clear hmv
      obtain ⟨⟨A, cap, l⟩, ⟨pA, pcap, pl⟩⟩ := s
      simp only at *
      go_enter Tryz.func49, Tryz.ntmps49
      go_upto_region 1 with fail
      rw [← HW.out]
      go_wp2_with fail
      go_loopw [3, 22] (fun v3 v wr => ∃ k : Nat, v = .int .i64 k ∧ v3 = .int .i64 (movesN (l.take k)) ∧ k ≤ l.length ∧ Hid (UpTo (fun _ (q : CueD) => cueB q.pl) l k) ∧ ∃ x : After W.heap.size W, wr = x.val) (fun _ v _ => l.length - (intOf v).toNat)
      case atStart => exact ⟨0, rfl, rfl, Nat.zero_le _, hide (UpTo.zero _ _), After.refl _ _, rfl⟩
      case round =>
        obtain ⟨k, rfl, rfl, hk, hall, x, rfl⟩ := hrel
        by_cases hlt : k < l.length
        · obtain ⟨b, off, hA, hb, hcell⟩ := HAT.out.cues.2.2 (show 0 < l.length by omega)
          simp only at hA
          subst hA
          obtain ⟨q, hx⟩ : ∃ q, l[k]? = some q := ⟨l[k], List.getElem?_eq_getElem hlt⟩
          have hmem : q ∈ l := List.mem_of_getElem? hx
          have he := fun x : After W.heap.size W => CueD.elem hx hb hcell x
          have hatq := HAT.out.each q hmem
          have hokq := HOK.out.cues q hmem
          have HX := hide hx
          have HNOK := hide (fun hq => HNO.out k q hx hq)
          have HSN := hide (movesN_snoc l k q hx)
          have hml1 : q.moves.l.length ≤ 1000000 := HML.out q hmem
          have hmk : movesN (l.take k) ≤ 60000000 := by
            have h1 := HMV.out k
            rw [List.length_take] at h1
            have : min k l.length ≤ 60 := by omega
            have := Nat.mul_le_mul_right 1000000 this
            omega
          clear hcell hx hmem
          obtain ⟨nm, af, lk, dl, ⟨mA, mc, ml⟩, cr, pw⟩ := q
          simp only at *
          have hmc : mc ≤ 9223372036854775807 := hatq.moves.2.1
          have hmlc : ml.length ≤ mc := hatq.moves.1
          obtain ⟨V, hV, hVs, hVb, hVh⟩ := boxed x.val (.cells #[.string nm, .string af, .int .i64 lk, .int .i64 dl, .slice mA ml.length mc, .int .i64 cr, .int .i64 pw] 97)
          have hcq := fun y : After V.heap.size V => CueD.boxed (q := ⟨nm, af, lk, dl, ⟨mA, mc, ml⟩, cr, pw⟩) hVh (by omega) y
          simp only at hcq
          have hcq0 := hcq (After.refl _ _)
          simp only [After.refl] at hcq0
          have hbV : ∀ y : After V.heap.size V, Below W.heap.size W y.val := fun y => x.below.trans ((hVb.mono x.size).trans (y.below.mono (by have := x.size; omega)))
          have hcy := fun y : After V.heap.size V => hc ⟨y.val, hbV y⟩
          simp only at hcy
          have HV := hide hV
          have HBV := hide hbV
          have HATM := hide (hatq.moves.to (hbV (After.refl _ _)) (show W.heap.size ≤ V.heap.size by have := x.size; omega))
          simp only [After.refl] at HATM
          have HOKQ := hide hokq
          clear hV hVs hVb hVh hbV hatq hokq
          go_upto_region 7 with fail
          rw [← HV.out]
          go_cut [6] (fun a wx => a = .bool (afterB lk af) ∧ ∃ z : After V.heap.size V, wx = z.val)
          case first =>
            have haf := HOKQ.out.after
            simp only at haf
            cases h1 : (lk == 1)
            · cases h2 : (lk == 2)
              · cases h3 : (lk == 3)
                · go_wp2_with fail
                  go_meet
                  exact ⟨by simp [afterB, h1, h2, h3], After.refl _ _, rfl⟩
                · go_wp2_with (go_at_call 57; refine (Gives.first (isName_any _ _ haf)).mono ?_; rintro e w' ⟨rfl, z, rfl⟩)
                  go_meet
                  exact ⟨by simp [afterB, h1, h2, h3], z, rfl⟩
              · go_wp2_with (go_at_call 57; refine (Gives.first (isName_any _ _ haf)).mono ?_; rintro e w' ⟨rfl, z, rfl⟩)
                go_meet
                exact ⟨by simp [afterB, h1, h2], z, rfl⟩
            · have h0 : lk = 1 := by simpa using h1
              have h2 : (lk == 2) = false := by rw [h0]; rfl
              have h3 : (lk == 3) = false := by rw [h0]; rfl
              clear h0
              cases h4 : (af.toList == [])
              · go_wp2_with fail
                go_meet
                exact ⟨by simp [afterB, h1, h2, h3, h4], After.refl _ _, rfl⟩
              · go_wp2_with fail
                go_meet
                exact ⟨by simp [afterB, h1, h4], After.refl _ _, rfl⟩
          case rest =>
            obtain ⟨rfl, z, rfl⟩ := hcut
            have hnm := HOKQ.out.name
            simp only at hnm
            have hcz := hcq z
            cases hN : isName nm
            · have HF := hide (HNOK.out (cueB_head (by simp [cueHeadB, hN])))
              go_wp2_with (go_at_call 57; refine (Gives.after (Nat.le_refl _) (isName_any _ _ hnm)).mono ?_; rintro e w' ⟨rfl, y, rfl⟩; rw [hN])
              go_ret
              exact Gives.mk (congrArg Value.bool HF.out.symm) (HBD.out ⟨_, HBV.out _⟩)
            · cases hA : afterB lk af
              · have HF := hide (HNOK.out (cueB_head (by simp [cueHeadB, hN, hA])))
                go_wp2_with (go_at_call 57; refine (Gives.after (Nat.le_refl _) (isName_any _ _ hnm)).mono ?_; rintro e w' ⟨rfl, y, rfl⟩; rw [hN])
                go_ret
                exact Gives.mk (congrArg Value.bool HF.out.symm) (HBD.out ⟨_, HBV.out _⟩)
              · cases hS : [dl, cr, pw].all shortB
                · have HF := hide (HNOK.out (cueB_head (by simp only [cueHeadB, hS, Bool.and_false])))
                  go_wp2_with (first
                    | (go_at_call 57; refine (Gives.after (Nat.le_refl _) (isName_any _ _ hnm)).mono ?_; rintro e w' ⟨rfl, y, rfl⟩; rw [hN])
                    | (go_at_call 68; refine (shortOf3 dl cr pw y.val).mono ?_; rintro e w' ⟨rfl, hbw⟩; obtain ⟨y2, rfl⟩ : ∃ y2 : After V.heap.size V, w' = y2.val := ⟨⟨w', y.below.trans (hbw.mono y.size)⟩, rfl⟩; rw [hS]))
                  go_ret
                  exact Gives.mk (congrArg Value.bool HF.out.symm) (HBD.out ⟨_, HBV.out _⟩)
                · have HNOM := hide (fun (j : Nat) (m : MoveD) (h : ml[j]? = some m) (hm : moveB m = false) => HNOK.out (cueB_move (q := ⟨nm, af, lk, dl, ⟨mA, mc, ml⟩, cr, pw⟩) h hm))
                  have HYQ := hide (fun (j : Nat) (hj : ml.length ≤ j) (h : UpTo (fun _ (m : MoveD) => moveB m) ml j) => cueB_yes (q := ⟨nm, af, lk, dl, ⟨mA, mc, ml⟩, cr, pw⟩) (by simp only [cueHeadB, hN, hA, hS, Bool.and_self]) (upTo_all h hj))
                  go_wp2_with (first
                    | (go_at_call 57; refine (Gives.after (Nat.le_refl _) (isName_any _ _ hnm)).mono ?_; rintro e w' ⟨rfl, y, rfl⟩; rw [hN])
                    | (go_at_call 68; refine (shortOf3 dl cr pw y.val).mono ?_; rintro e w' ⟨rfl, hbw⟩; obtain ⟨y2, rfl⟩ : ∃ y2 : After V.heap.size V, w' = y2.val := ⟨⟨w', y.below.trans (hbw.mono y.size)⟩, rfl⟩; rw [hS]))
                  go_loopw [71] (fun v wr => ∃ j : Nat, v = .int .i64 j ∧ j ≤ ml.length ∧ Hid (UpTo (fun _ (m : MoveD) => moveB m) ml j) ∧ ∃ z : After V.heap.size V, wr = z.val) (fun v _ => ml.length - (intOf v).toNat)
                  case atStart => exact ⟨0, rfl, Nat.zero_le _, hide (UpTo.zero _ _), _, rfl⟩
                  case round =>
                    obtain ⟨j, rfl, hj, hallm, z, rfl⟩ := hrel
                    by_cases hjl : j < ml.length
                    · obtain ⟨mb, mo, hmA, hmb, hmcell⟩ := HATM.out.2.2 (show 0 < ml.length by omega)
                      simp only at hmA
                      subst hmA
                      obtain ⟨m, hmx⟩ : ∃ m, ml[j]? = some m := ⟨ml[j], List.getElem?_eq_getElem hjl⟩
                      have hme := fun y : After V.heap.size V => MoveD.elem hmx hmb hmcell y
                      have hmok := HOKQ.out.moves m (List.mem_of_getElem? hmx)
                      have hms := hmok.set
                      have HMX := hide hmx
                      have HNM := hide (fun hm => HNOM.out j m hmx hm)
                      obtain ⟨M, hM, hMs, hMb, hMh⟩ := boxed z.val (.cells #[.string m.set, .int .i64 m.to, .int .i64 m.speed, .int .i64 m.rise, .int .i64 m.fall] 99)
                      have hcm := fun y : After M.heap.size M => MoveD.boxed hMh (by omega) y
                      have hcm0 := hcm (After.refl _ _)
                      simp only [After.refl] at hcm0
                      have hbM : ∀ y : After M.heap.size M, Below V.heap.size V y.val := fun y => z.below.trans ((hMb.mono z.size).trans (y.below.mono (by have := z.size; omega)))
                      have HM := hide hM
                      have HBM := hide hbM
                      clear hM hMs hMb hMh hbM hmx hmcell hmok
                      cases hN2 : isName m.set
                      · have HF := hide (HNM.out (by simp [moveB, hN2]))
                        go_wp2_with (go_at_call 57; rw [← HM.out]; refine (Gives.first (isName_any _ _ hms)).mono ?_; rintro e w' ⟨rfl, y, rfl⟩; rw [hN2])
                        go_ret
                        exact Gives.mk (congrArg Value.bool HF.out.symm) (HBD.out ⟨_, HBV.out ⟨_, HBM.out _⟩⟩)
                      · cases hS2 : [m.to, m.speed, m.rise, m.fall].all shortB
                        · have HF := hide (HNM.out (by simp only [moveB, hS2, Bool.and_false]))
                          go_wp2_with (first
                            | (go_at_call 57; rw [← HM.out]; refine (Gives.first (isName_any _ _ hms)).mono ?_; rintro e w' ⟨rfl, y, rfl⟩; rw [hN2]; have hcmy := hcm y)
                            | (go_at_call 68; refine (shortOf4 m.to m.speed m.rise m.fall y.val).mono ?_; rintro e w' ⟨rfl, hbw⟩; obtain ⟨y2, rfl⟩ : ∃ y2 : After M.heap.size M, w' = y2.val := ⟨⟨w', y.below.trans (hbw.mono y.size)⟩, rfl⟩; rw [hS2]))
                          go_ret
                          exact Gives.mk (congrArg Value.bool HF.out.symm) (HBD.out ⟨_, HBV.out ⟨_, HBM.out _⟩⟩)
                        · have HMT := hide (show moveB m = true by simp only [moveB, hN2, hS2, Bool.and_self])
                          go_wp2_with (first
                            | (go_at_call 57; rw [← HM.out]; refine (Gives.first (isName_any _ _ hms)).mono ?_; rintro e w' ⟨rfl, y, rfl⟩; rw [hN2]; have hcmy := hcm y)
                            | (go_at_call 68; refine (shortOf4 m.to m.speed m.rise m.fall y.val).mono ?_; rintro e w' ⟨rfl, hbw⟩; obtain ⟨y2, rfl⟩ : ∃ y2 : After M.heap.size M, w' = y2.val := ⟨⟨w', y.below.trans (hbw.mono y.size)⟩, rfl⟩; rw [hS2]))
                          exact ⟨⟨j + 1, by go_num, by omega, hide (hallm.out.next HMX.out HMT.out), ⟨_, HBM.out _⟩, rfl⟩, by simp [intOf]; omega⟩
                    · have HQ := hide (HYQ.out j (by omega) hallm.out)
                      have hcz2 := hcq z
                      go_wp2_with fail
                      refine ⟨⟨k + 1, by go_num, ?_, by omega, hide (hall.out.next HX.out HQ.out), ⟨_, HBV.out _⟩, rfl⟩, by simp [intOf]; omega⟩
                      rw [HSN.out]
                      go_num
        · have HY := hide (HYES.out k (by omega) hall.out)
          have hkl : k = l.length := by omega
          subst hkl
          rw [List.take_length]
          have hcx := hc x
          have HPA := hide (HAT.out.apart.to x.below (Nat.le_refl _))
          have HPO := hide HOK.out.apart
          by_cases h100 : (movesN l : Int) ≤ 100
          · have HY2 := hide (show r = pl.all pairB by rw [HY.out, decide_eq_true (by omega)]; rfl)
            go_wp2_with (go_at_call 69; refine (Gives.after (Nat.le_refl _) (containsPair_any pA pcap pl (fun p => !pairB p) _ #[] enters_writable1 x.val W.heap.size x.size HPA.out (fun x' e he => writable1_any e (HPO.out e he).1 (HPO.out e he).2 x'.val))).mono ?_; rintro e w' ⟨rfl, y, rfl⟩)
            go_ret
            exact Gives.mk (congrArg Value.bool ((any_not_all pairB pl).trans HY2.out.symm)) (HBD.out _)
          · have HY2 := hide (show r = false by rw [HY.out, decide_eq_false (by omega)]; rfl)
            go_wp2_with fail
            go_ret
            exact Gives.mk (congrArg Value.bool HY2.out.symm) (HBD.out _)
end Go.Proofs.YtcdkhlndohokcaaGreatDoor
