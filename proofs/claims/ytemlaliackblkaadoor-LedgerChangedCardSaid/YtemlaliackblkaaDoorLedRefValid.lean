/- The reference's Valid of layer 47. -/
import Derived.Test.YtemlaliackblkaaDoorLedValid
import Derived.Test.YtemlaliackblkaaDoorLedOut
import Derived.Deep.DeepCutAuto
namespace Go.Proofs.YtemlaliackblkaaDoor
open Go.RowKit

def LastR (l : List LogD) (nm : ByteArray) (i : Int) : Prop := (i = -1 ∧ ∀ (j : Nat) (y : LogD), l[j]? = some y → hitR nm y = false) ∨ ∃ (k : Nat) (x : LogD), i = k ∧ l[k]? = some x ∧ hitR nm x = true ∧ ∀ (j : Nat) (y : LogD), k < j → l[j]? = some y → hitR nm y = false
theorem hitR_eq (nm : ByteArray) (x : LogD) : hitR nm x = ((x.rope.toList == nm.toList) && (decide (x.kind = 2) || decide (x.kind = 4))) := rfl
set_option maxRecDepth 100000 in
set_option maxHeartbeats 4000000 in
theorem refLast_any (A : Option Addr) (cap : Nat) (l : List LogD) (nm : ByteArray) (w : World) (B : Nat) (hB : B ≤ w.heap.size) (hs : SlAt w B 4 LogD.cells ⟨A, cap, l⟩) :
    Calls Tryd.prog 53 #[.slice A l.length cap, .string nm, .int .i64 2, .int .i64 4] w fun e w' => ∃ i : Int, e = .returned (.int .i64 i) ∧ LastR l nm i ∧ Below w.heap.size w w' := by
  have hm : cap ≤ 9223372036854775807 := hs.2.1
  have hlc : l.length ≤ cap := hs.1
  have HS := hide hs
  clear hs
  go_enter Tryd.func53, Tryd.ntmps53
  go_wp2
  go_loopw [9] (fun v wr => ∃ k : Nat, v = .int .i64 ((k : Int) - 1) ∧ k ≤ l.length ∧ Hid (∀ (j : Nat) (y : LogD), k ≤ j → l[j]? = some y → hitR nm y = false) ∧ ∃ x : After w.heap.size w, wr = x.val) (fun v _ => (intOf v + 1).toNat)
  case atStart => exact ⟨l.length, rfl, Nat.le_refl _, hide (fun j c hj hc => absurd (List.getElem?_eq_some_iff.1 hc).1 (by omega)), After.refl _ _, rfl⟩
  case round =>
    obtain ⟨k, rfl, hk, hall, x, rfl⟩ := hrel
    cases k with
    | zero =>
      have HF := hide (show LastR l nm (-1) from Or.inl ⟨rfl, fun j c hc => hall.out j c (Nat.zero_le _) hc⟩)
      go_wp2
      go_ret
      exact ⟨_, rfl, HF.out, x.below⟩
    | succ k =>
      obtain ⟨b, off, hA, hb, hcell⟩ := HS.out.2.2 (show 0 < l.length by omega)
      simp only at hA
      subst hA
      have hlt : k < l.length := by omega
      have hx : l[k]? = some l[k] := List.getElem?_eq_getElem hlt
      have he := fun x : After w.heap.size w => LogD.elem hx (show b < w.heap.size by omega) hcell x
      have hin : (k : Int) < (l.length : Int) := by omega
      have hi0 : (0 : Int) ≤ (k : Int) := by omega
      have HX := hide hx
      obtain ⟨c, hc⟩ : ∃ c, c = l[k] := ⟨_, rfl⟩
      rw [← hc] at he HX
      have ek : ((k + 1 : Nat) : Int) - 1 = (k : Int) := by omega
      rw [ek]
      have HH := hide (hitR_eq nm c)
      clear hc hcell hx ek
      have ways : (hitR nm c = true ∧ (c.rope.toList == nm.toList) = true ∧ ((c.kind == 2) = true ∨ ((c.kind == 2) = false ∧ (c.kind == 4) = true))) ∨ (hitR nm c = false ∧ ((c.rope.toList == nm.toList) = false ∨ ((c.rope.toList == nm.toList) = true ∧ (c.kind == 2) = false ∧ (c.kind == 4) = false))) := by
        rw [hitR_eq]
        cases c.rope.toList == nm.toList
        · exact Or.inr ⟨rfl, Or.inl rfl⟩
        · by_cases h2 : c.kind = 2
          · exact Or.inl ⟨by simp [h2], rfl, Or.inl (by simp [h2])⟩
          · by_cases h4 : c.kind = 4
            · exact Or.inl ⟨by simp [h4], rfl, Or.inr ⟨by simp [h2], by simp [h4]⟩⟩
            · exact Or.inr ⟨by simp [h2, h4], Or.inr ⟨rfl, by simp [h2], by simp [h4]⟩⟩
      rcases ways with ⟨hh, hq, hk2⟩ | ⟨hh, hk2⟩
      · have HF := hide (show LastR l nm (k : Int) from Or.inr ⟨k, c, rfl, HX.out, hh, fun j d hj hd => hall.out j d (by omega) hd⟩)
        clear hh
        rcases hk2 with hk2 | ⟨hk2, hk4⟩
        all_goals
          go_wp2
          go_ret
          exact ⟨_, rfl, HF.out, x.below⟩
      · have HN := hide (show ∀ (j : Nat) (y : LogD), k ≤ j → l[j]? = some y → hitR nm y = false from fun j d hj hd => by
          by_cases e : j = k
          · subst e; rw [HX.out] at hd; injection hd with hd; rw [← hd]; exact hh
          · exact hall.out j d (by omega) hd)
        clear hh
        rcases hk2 with hq | ⟨hq, hk2, hk4⟩
        all_goals
          go_wp2
          exact ⟨⟨k, by go_num, by omega, HN, _, rfl⟩, by simp [intOf]⟩
set_option maxRecDepth 100000 in
set_option maxHeartbeats 4000000 in
theorem refRetired_any (A : Option Addr) (cap : Nat) (l : List LogD) (nm : ByteArray) (w : World) (B : Nat) (hB : B ≤ w.heap.size) (hs : SlAt w B 4 LogD.cells ⟨A, cap, l⟩) :
    Calls Tryd.prog 36 #[.slice A l.length cap, .string nm] w (Gives w (.bool (refGone l nm))) := by
  have KL := hide (refLast_any A cap l nm w B hB hs)
  have HS := hide hs
  have hm : cap ≤ 9223372036854775807 := hs.2.1
  have hlc : l.length ≤ cap := hs.1
  clear hs
  go_enter Tryd.func36, Tryd.ntmps36
  go_wp2_with fail
  refine KL.out.mono ?_
  rintro e w1 ⟨i, rfl, hi, hb⟩
  obtain ⟨y, rfl⟩ := After.exists_iff hb
  clear hb
  rcases hi with ⟨rfl, hn⟩ | ⟨k, x, rfl, hx, hh, hn⟩
  · have HF := hide (refGone_none hn)
    clear hn
    go_wp2
    go_ret
    exact Gives.mk (by rw [HF.out]; rfl) y.below
  · have HF := hide (refGone_last hx hh hn)
    have hk := (List.getElem?_eq_some_iff.1 hx).1
    obtain ⟨b, off, hA, hb, hcell⟩ := HS.out.2.2 (show 0 < l.length by omega)
    simp only at hA
    subst hA
    have he := fun x : After w.heap.size w => LogD.elem hx (show b < w.heap.size by omega) hcell x
    have hin : (k : Int) < (l.length : Int) := by omega
    have hi0 : (0 : Int) ≤ (k : Int) := by omega
    clear hn hh hcell
    go_wp2
    go_ret
    exact Gives.mk (by rw [HF.out]; rfl) y.below
/-- the first test of an entry, and what makes it valid -/
def firstAt (l : List LogD) (i : Nat) (x : LogD) : Bool := dayOk x.day && decide (dayTo l i ≤ x.day) && isName x.rope && kindOk x.kind
theorem entry_split (l : List LogD) (k : Nat) (x : LogD) (hx : l[k]? = some x) (h : UpTo (entryAt l) l k) : entryAt l k x = (firstAt l k x && runsOk x && !((x.kind != 2) && refGone (l.take k) x.rope)) := by
  have hk : k ≤ l.length := by have := (List.getElem?_eq_some_iff.1 hx).1; omega
  rw [refGone_gone x.rope k hk h, entryAt, firstAt]
  cases dayOk x.day && decide (dayTo l k ≤ x.day) && isName x.rope && kindOk x.kind && runsOk x
  · rfl
  · by_cases e : x.kind = 2 <;> cases gone (l.take k) x.rope <;> simp [e]
set_option maxRecDepth 100000 in
set_option maxHeartbeats 8000000 in
theorem refValidL_any (A : Option Addr) (cap : Nat) (l : List LogD) (hok : ∀ x ∈ l, x.ok) (w : World) (B : Nat) (hB : B ≤ w.heap.size) (hs : SlAt w B 4 LogD.cells ⟨A, cap, l⟩) :
    Calls Tryd.prog 16 #[.slice A l.length cap] w (Gives w (.bool (logOk l))) := by
  have hlc : l.length ≤ cap := hs.1
  have hlm : cap ≤ 9223372036854775807 := hs.2.1
  have HS := hide hs
  have HOK := hide hok
  obtain ⟨R, hR⟩ : ∃ R, R = logOk l := ⟨_, rfl⟩
  rw [← hR]
  have HR := hide hR
  clear hs hok hR
  rcases Nat.lt_or_ge 1000 l.length with h1000 | h1000
  · have HF := hide (logOk_long h1000)
    rw [← HR.out] at HF
    have h1000i : (1000 : Int) < (l.length : Int) := by omega
    go_enter Tryd.func16, Tryd.ntmps16
    go_wp2
    go_ret
    exact Gives.mk (by rw [HF.out]; rfl) (Below.refl _ _)
  · have h1000i : (l.length : Int) ≤ 1000 := by omega
    go_enter Tryd.func16, Tryd.ntmps16
    go_wp2
    go_loopw [3] (fun v wr => ∃ k : Nat, v = .int .i64 k ∧ k ≤ l.length ∧ Hid (UpTo (entryAt l) l k) ∧ ∃ y : After w.heap.size w, wr = y.val) (fun v _ => l.length - (intOf v).toNat)
    case atStart => exact ⟨0, rfl, Nat.zero_le _, hide (UpTo.zero _ _), After.refl _ _, rfl⟩
    case round =>
      obtain ⟨k, rfl, hk, HU, yr, rfl⟩ := hrel
      by_cases hlt : k < l.length
      · obtain ⟨b, off, hA, hbB, hcell⟩ := HS.out.2.2 (show 0 < l.length by omega)
        simp only at hA
        subst hA
        have hx : l[k]? = some l[k] := List.getElem?_eq_getElem hlt
        have hbw : b < w.heap.size := by omega
        have he := LogD.elem hx hbw hcell yr
        obtain ⟨V, hV, hVs, hVb, hVh⟩ := boxed yr.val (.cells #[.int .i64 l[k].day, .string l[k].rope, .int .i64 l[k].kind, .int .i64 l[k].runs] 24)
        have hcV := fun y : After V.heap.size V => LogD.boxed hVh (by omega) y
        have HBD := hide fun y : After V.heap.size V => (yr.below.trans ((hVb.trans (y.below.mono (by omega))).mono yr.size) : Below w.heap.size w y.val)
        have HSV := hide fun y : After V.heap.size V => HS.out.to ((HBD.out y).mono hB) hB
        have HX := hide hx
        have HV := hide hV
        have HOX := hide (HOK.out _ (List.getElem_mem hlt))
        have HES := hide (entry_split l k _ hx HU.out)
        have HVS := hide hVs
        have HCE := hide hcell
        obtain ⟨x, hxx⟩ : ∃ x, x = l[k] := ⟨_, rfl⟩
        rw [← hxx] at he hcV HX HV HOX HES
        have YR : V = (After.refl V.heap.size V).val := rfl
        have KN := hide fun y : After V.heap.size V => Gives.after (x := y) (Nat.le_refl _) (refIsName_any x.rope y.val HOX.out.rope)
        clear hV hVs hVb hVh hcell hx hxx
        have hin : (k : Int) < (l.length : Int) := by omega
        have hi0 : (0 : Int) ≤ (k : Int) := by omega
        go_upto_region 7 with fail
        rw [← HV.out, YR]
        clear he
        obtain ⟨fb, hfb⟩ : ∃ fb, fb = firstAt l k x := ⟨_, rfl⟩
        obtain ⟨rb, hrb⟩ : ∃ rb, rb = runsOk x := ⟨_, rfl⟩
        obtain ⟨rg, hrg⟩ : ∃ rg, rg = refGone (l.take k) x.rope := ⟨_, rfl⟩
        obtain ⟨N, hN⟩ : ∃ N, N = isName x.rope := ⟨_, rfl⟩
        rw [← hN] at KN
        rw [← hfb, ← hrb, ← hrg] at HES
        have hfe : fb = (dayOk x.day && decide (dayTo l k ≤ x.day) && N && kindOk x.kind) := by rw [hfb, firstAt, hN]
        obtain ⟨pd, hpd⟩ : ∃ pd, pd = dayTo l k := ⟨_, rfl⟩
        rw [← hpd] at hfe
        have HPD := hide hpd
        have HRB := hide hrb
        have HRG := hide hrg
        have ways : (x.day < 0 ∧ fb = false) ∨ (0 ≤ x.day ∧ 109572 < x.day ∧ fb = false) ∨ (0 ≤ x.day ∧ x.day ≤ 109572 ∧ x.day < pd ∧ fb = false) ∨ (0 ≤ x.day ∧ x.day ≤ 109572 ∧ pd ≤ x.day ∧ N = false ∧ fb = false) ∨
            (0 ≤ x.day ∧ x.day ≤ 109572 ∧ pd ≤ x.day ∧ N = true ∧ x.kind < 1 ∧ fb = false) ∨ (0 ≤ x.day ∧ x.day ≤ 109572 ∧ pd ≤ x.day ∧ N = true ∧ 1 ≤ x.kind ∧ 4 < x.kind ∧ fb = false) ∨
            (0 ≤ x.day ∧ x.day ≤ 109572 ∧ pd ≤ x.day ∧ N = true ∧ 1 ≤ x.kind ∧ x.kind ≤ 4 ∧ fb = true) := by
          rw [hfe]
          rcases (show x.day < 0 ∨ 0 ≤ x.day by omega) with h1 | h1
          · exact Or.inl ⟨h1, by have : ¬ 0 ≤ x.day := by omega
                                 simp [dayOk, this]⟩
          rcases (show 109572 < x.day ∨ x.day ≤ 109572 by omega) with h2 | h2
          · exact Or.inr (Or.inl ⟨h1, h2, by have : ¬ x.day ≤ 109572 := by omega
                                             simp [dayOk, this]⟩)
          have hd : dayOk x.day = true := by simp [dayOk, h1, h2]
          rcases (show x.day < pd ∨ pd ≤ x.day by omega) with h3 | h3
          · exact Or.inr (Or.inr (Or.inl ⟨h1, h2, h3, by have : ¬ pd ≤ x.day := by omega
                                                         simp [this]⟩))
          cases N
          · exact Or.inr (Or.inr (Or.inr (Or.inl ⟨h1, h2, h3, rfl, by simp⟩)))
          rcases (show x.kind < 1 ∨ 1 ≤ x.kind by omega) with h4 | h4
          · exact Or.inr (Or.inr (Or.inr (Or.inr (Or.inl ⟨h1, h2, h3, rfl, h4, by have : ¬ 1 ≤ x.kind := by omega
                                                                                  simp [kindOk, this]⟩))))
          rcases (show 4 < x.kind ∨ x.kind ≤ 4 by omega) with h5 | h5
          · exact Or.inr (Or.inr (Or.inr (Or.inr (Or.inr (Or.inl ⟨h1, h2, h3, rfl, h4, h5, by have : ¬ x.kind ≤ 4 := by omega
                                                                                              simp [kindOk, this]⟩)))))
          · exact Or.inr (Or.inr (Or.inr (Or.inr (Or.inr (Or.inr ⟨h1, h2, h3, rfl, h4, h5, by simp [hd, h3, kindOk, h4, h5]⟩)))))
        clear hfe hfb hrb hrg hN hpd
        go_cut [56] (fun a wx => a = .bool (!fb) ∧ ∃ y : After V.heap.size V, wx = y.val)
        case first =>
          have WAYS := hide ways
          clear ways
          rcases (show k = 0 ∨ 0 < k by omega) with hk0 | hk0
          · subst hk0
            have hp0 : pd = 0 := HPD.out
            subst hp0
            rcases WAYS.out with ⟨g1, E0⟩ | ⟨g1, g2, E0⟩ | ⟨g1, g2, g3, E0⟩ | ⟨g1, g2, g3, rfl, E0⟩ | ⟨g1, g2, g3, rfl, g4, E0⟩ | ⟨g1, g2, g3, rfl, g4, g5, E0⟩ | ⟨g1, g2, g3, rfl, g4, g5, E0⟩
            all_goals try (exfalso; omega)
            all_goals
              have E := hide E0
              try have q1 : decide (x.day < 0) = false := decide_eq_false (by omega)
              try have q2 : decide (109572 < x.day) = false := decide_eq_false (by omega)
              try have q3 : decide (x.day < 0) = false := decide_eq_false (by omega)
              try have q4 : decide (x.kind < 1) = false := decide_eq_false (by omega)
              try have q5 : decide (4 < x.kind) = false := decide_eq_false (by omega)
              try have p1 : decide (x.day < 0) = true := decide_eq_true (by omega)
              try have p2 : decide (109572 < x.day) = true := decide_eq_true (by omega)
              try have p3 : decide (x.day < 0) = true := decide_eq_true (by omega)
              try have p4 : decide (x.kind < 1) = true := decide_eq_true (by omega)
              try have p5 : decide (4 < x.kind) = true := decide_eq_true (by omega)
              clear E0 WAYS HES HRB HRG HPD
              refine wp_region_after (After.refl V.heap.size V) (by kernel_rfl) (by kernel_rfl) ?_
              repeat (go_big_quiet_step ((go_at_call 35; exact KN.out _)))
              refine wpQuiet_nil ?_
              intro z
              go_wp2_with fail
              go_meet
              exact ⟨by rw [E.out]; first | rfl | (simp; done) | (simp; omega), _, rfl⟩
          · obtain ⟨j, rfl⟩ : ∃ j, k = j + 1 := ⟨k - 1, by omega⟩
            have hj : l[j]? = some l[j] := List.getElem?_eq_getElem (by omega)
            have hcp := fun y : After V.heap.size V => (show y.val.cell? ⟨b, off + j * 4, none⟩ = some (.int .i64 pd) from by rw [HPD.out, dayTo_next hj]; exact (LogD.elem hj hbw HCE.out ⟨y.val, HBD.out y⟩).1)
            have hj0 : (0 : Int) ≤ (j : Int) := by omega
            have hj1 : (j : Int) < (l.length : Int) := by omega
            have hj2 : decide (0 < (j : Int) + 1) = true := decide_eq_true (by omega)
            clear hj
            rcases WAYS.out with ⟨g1, E0⟩ | ⟨g1, g2, E0⟩ | ⟨g1, g2, g3, E0⟩ | ⟨g1, g2, g3, rfl, E0⟩ | ⟨g1, g2, g3, rfl, g4, E0⟩ | ⟨g1, g2, g3, rfl, g4, g5, E0⟩ | ⟨g1, g2, g3, rfl, g4, g5, E0⟩
            all_goals
              have E := hide E0
              try have q1 : decide (x.day < 0) = false := decide_eq_false (by omega)
              try have q2 : decide (109572 < x.day) = false := decide_eq_false (by omega)
              try have q3 : decide (x.day < pd) = false := decide_eq_false (by omega)
              try have q4 : decide (x.kind < 1) = false := decide_eq_false (by omega)
              try have q5 : decide (4 < x.kind) = false := decide_eq_false (by omega)
              try have p1 : decide (x.day < 0) = true := decide_eq_true (by omega)
              try have p2 : decide (109572 < x.day) = true := decide_eq_true (by omega)
              try have p3 : decide (x.day < pd) = true := decide_eq_true (by omega)
              try have p4 : decide (x.kind < 1) = true := decide_eq_true (by omega)
              try have p5 : decide (4 < x.kind) = true := decide_eq_true (by omega)
              clear E0 WAYS HES HRB HRG HPD
              refine wp_region_after (After.refl V.heap.size V) (by kernel_rfl) (by kernel_rfl) ?_
              repeat (go_big_quiet_step ((go_at_call 35; exact KN.out _)))
              refine wpQuiet_nil ?_
              intro z
              go_wp2_with fail
              go_meet
              exact ⟨by rw [E.out]; first | rfl | (simp; done) | (simp; omega), _, rfl⟩
        case rest =>
          obtain ⟨rfl, y, rfl⟩ := hcut
          cases fb
          · have HF := hide (logOk_at HX.out (by rw [HES.out]; rfl))
            rw [← HR.out] at HF
            go_wp2
            go_ret
            exact Gives.mk (by rw [HF.out]; rfl) (HBD.out y)
          · go_upto_region 9 with fail
            go_cut [79] (fun a wx => a = .bool (!rb) ∧ y.val = wx)
            case first =>
              have hrw : (x.kind = 3 ∧ x.runs < 1 ∧ rb = false) ∨ (x.kind = 3 ∧ 1 ≤ x.runs ∧ 1000000 < x.runs ∧ rb = false) ∨ (x.kind = 3 ∧ 1 ≤ x.runs ∧ x.runs ≤ 1000000 ∧ rb = true) ∨ (¬ x.kind = 3 ∧ x.runs = 0 ∧ rb = true) ∨ (¬ x.kind = 3 ∧ ¬ x.runs = 0 ∧ rb = false) := by
                rw [HRB.out]
                by_cases h3 : x.kind = 3
                · rw [runs_three h3]
                  rcases (show x.runs < 1 ∨ 1 ≤ x.runs by omega) with h | h
                  · exact Or.inl ⟨h3, h, by have : ¬ 1 ≤ x.runs := by omega
                                            simp [this]⟩
                  rcases (show 1000000 < x.runs ∨ x.runs ≤ 1000000 by omega) with h2 | h2
                  · exact Or.inr (Or.inl ⟨h3, h, h2, by have : ¬ x.runs ≤ 1000000 := by omega
                                                        simp [this]⟩)
                  · exact Or.inr (Or.inr (Or.inl ⟨h3, h, h2, by simp [h, h2]⟩))
                · rw [runs_other h3]
                  by_cases h : x.runs = 0
                  · exact Or.inr (Or.inr (Or.inr (Or.inl ⟨h3, h, by simp [h]⟩)))
                  · exact Or.inr (Or.inr (Or.inr (Or.inr ⟨h3, h, by simp [h]⟩)))
              have HRW := hide hrw
              clear hrw ways
              rcases HRW.out with ⟨h3, h, E0⟩ | ⟨h3, h, h2, E0⟩ | ⟨h3, h, h2, E0⟩ | ⟨h3, h, E0⟩ | ⟨h3, h, E0⟩
              all_goals
                have E := hide E0
                clear E0 HRW HES HRB
                go_wp2_with fail
                go_meet
                exact ⟨by rw [E.out]; first | rfl | (simp; done) | (simp [h3, h]; done) | (simp; omega), rfl⟩
            case rest =>
              obtain ⟨rfl, rfl⟩ := hcut
              cases rb
              · have HF := hide (logOk_at HX.out (by rw [HES.out]; rfl))
                rw [← HR.out] at HF
                go_wp2
                go_ret
                exact Gives.mk (by rw [HF.out]; rfl) (HBD.out y)
              · go_upto_region 11 with fail
                go_cut [90] (fun a wx => a = .bool ((x.kind != 2) && rg) ∧ ∃ z : After V.heap.size V, wx = z.val)
                case first =>
                  have hkl : (l.take k).length = k := by rw [List.length_take]; omega
                  have KRT := hide fun y : After V.heap.size V => (by have := Gives.after (x := y) (Nat.le_refl _) (refRetired_any (some ⟨b, off, none⟩) cap (l.take k) x.rope y.val w.heap.size (HBD.out y).size ((HSV.out y).take k)); rw [hkl, ← HRG.out] at this; exact this)
                  have hst := fun W : World => slice_to (P := Tryd.prog) W 34 24 4 Tryd.underlying34 Tryd.sizeOf24 (some ⟨b, off, none⟩) l.length cap k (by omega)
                  clear ways hkl HES HRG HRB
                  rcases Bool.eq_false_or_eq_true (x.kind != 2) with hq | hq
                  all_goals
                    refine wp_region_after y (by kernel_rfl) (by kernel_rfl) ?_
                    repeat (go_big_quiet_step ((go_at_call 36; exact KRT.out _)))
                    refine wpQuiet_nil ?_
                    intro z
                    go_wp2_with fail
                    go_meet
                    exact ⟨by simp [hq], _, rfl⟩
                case rest =>
                  obtain ⟨rfl, z, rfl⟩ := hcut
                  obtain ⟨lb, hlb⟩ : ∃ lb, lb = ((x.kind != 2) && rg) := ⟨_, rfl⟩
                  rw [← hlb] at HES ⊢
                  clear hlb ways
                  cases lb
                  · have HNU := hide (HU.out.next HX.out (by rw [HES.out]; rfl))
                    go_wp2
                    exact ⟨⟨k + 1, by go_num, by omega, HNU, ⟨_, HBD.out z⟩, rfl⟩, by simp [intOf]; omega⟩
                  · have HF := hide (logOk_at HX.out (by rw [HES.out]; rfl))
                    rw [← HR.out] at HF
                    go_wp2
                    go_ret
                    exact Gives.mk (by rw [HF.out]; rfl) (HBD.out z)
      · have hkl : k = l.length := by omega
        have HF := hide (logOk_yes h1000 HU.out (by omega))
        rw [← HR.out] at HF
        subst hkl
        go_wp2
        go_ret
        exact Gives.mk (by rw [HF.out]; rfl) yr.below
end Go.Proofs.YtemlaliackblkaaDoor
