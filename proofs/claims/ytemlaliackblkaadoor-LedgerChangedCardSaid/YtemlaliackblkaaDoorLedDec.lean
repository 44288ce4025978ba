/- ledger.Decode, Good, Recover. -/
import Derived.Test.YtemlaliackblkaaDoorLedGood
namespace Go.Proofs.YtemlaliackblkaaDoor
open Go.RowKit

/-- a row of bytes that the call gives -/
def BRes (w : World) (v : Value) (out : List UInt8) (w' : World) : Prop := ∃ A cap, v = .slice A out.length cap ∧ (A = none → cap = 0) ∧ SlAt w' w'.heap.size 1 byteCells ⟨A, cap, out⟩ ∧ Below w.heap.size w w'
theorem OwnSt.slAt2 {α : Type} {t : TypeId} {size : Nat} {cells : α → List Value} {W x : World} {v : Value} {l : List α} (hs : ∀ x, (cells x).length = size) (h : OwnSt t size cells W v l x) : ∃ A cap, v = .slice A l.length cap ∧ (A = none → cap = 0) ∧ SlAt x x.heap.size size cells ⟨A, cap, l⟩ := by
  obtain ⟨A, cap, e, hsl⟩ := h.slAt hs
  refine ⟨A, cap, e, fun hn => ?_, hsl⟩
  subst hn
  rcases h.own.2 with ⟨hv, h0⟩ | ⟨g, cap2, cur, hv, _⟩
  · rw [hv] at e; injection e with e1 e2 e3; exact e3.symm
  · rw [hv] at e; injection e with e1; cases e1
theorem BRes.of_own {w w' : World} {v : Value} {out : List UInt8} (h : OwnSt 5 1 byteCells w v out w') : BRes w v out w' := by
  obtain ⟨A, cap, e, hn, hs⟩ := h.slAt2 byteCells_len
  exact ⟨A, cap, e, hn, hs, h.bel⟩
theorem BRes.nil {w w' : World} (h : Below w.heap.size w w') : BRes w (.slice none 0 0) [] w' := ⟨none, 0, rfl, fun _ => rfl, ⟨Nat.le_refl _, Nat.zero_le _, fun hn => absurd hn (by simp)⟩, h⟩
theorem BRes.from {w u w' : World} {v : Value} {out : List UInt8} (hu : Below w.heap.size w u) (h : BRes u v out w') : BRes w v out w' := by
  obtain ⟨A, cap, e, hn, hs, hb⟩ := h
  exact ⟨A, cap, e, hn, hs, hu.trans (hb.mono hu.size)⟩
theorem OwnSt.from {α : Type} {t : TypeId} {size : Nat} {cells : α → List Value} {w u x : World} {v : Value} {l : List α} (hu : Below w.heap.size w u) (h : OwnSt t size cells u v l x) : OwnSt t size cells w v l x := ⟨Joins.ownsRow_le h.own hu.size, hu.trans (h.bel.mono hu.size)⟩
theorem Ends.at_le {b : List UInt8} {at_ : Nat} {l : List LogD} {e : Int} (h : Ends b at_ l e) : at_ ≤ b.length := h.1.le
theorem Ends.stop_of {b : List UInt8} {at_ : Nat} {l : List LogD} {e : Int} (h : Ends b at_ l e) (hlt : at_ < b.length) : stepE b at_ l = .stop e ∧ e ≠ 0 := by
  rcases h.2 with ⟨h1, _⟩ | ⟨_, h2⟩
  · omega
  · exact ⟨h2, stepE_stop h2⟩
theorem dec_long {b : List UInt8} (h : 1048576 < b.length) : DecE b [] 4 := Or.inl ⟨h, rfl, rfl⟩
theorem dec_ok {b : List UInt8} {l : List LogD} {e : Int} (hb : b.length ≤ 1048576) (h : Ends b b.length l e) : DecE b l 0 := by
  have : e = 0 := h.ok_iff.2 rfl
  subst this
  exact Or.inr ⟨hb, _, _, h, by simp⟩
theorem dec_bad {b : List UInt8} {at_ : Nat} {l : List LogD} {e : Int} (hb : b.length ≤ 1048576) (h : Ends b at_ l e) (he : e ≠ 0) : DecE b [] e := Or.inr ⟨hb, at_, l, h, by rw [if_neg he]⟩
/-- how the error of a record of the right form is told -/
theorem stop_yes {b : List UInt8} {at_ : Nat} {l : List LogD} {x : LogD} {s er : Int} {m : Nat} (hs : stepE b at_ l = .stop er)
    (h : stepE b at_ l = (if (sumE (b.take at_ ++ headE x) : Int) = s then (if logOk (l ++ [x]) = true then .next x (m + 1) else .stop 1) else .stop 18)) : er = if (sumE (b.take at_ ++ headE x) : Int) = s then 1 else 18 := by
  rw [h] at hs
  split at hs
  · rename_i h1
    rw [if_pos h1]
    split at hs
    · cases hs
    · injection hs with hs; exact hs.symm
  · rename_i h1
    rw [if_neg h1]
    injection hs with hs; exact hs.symm
set_option maxRecDepth 100000 in
set_option maxHeartbeats 4000000 in
theorem goodX_long (A : Option Addr) (cap : Nat) (b : List UInt8) (hb : 1048576 < b.length) (w : World) : Calls Tryd.prog 23 #[.slice A b.length cap] w (Gives w (.tuple #[.int .i64 0, .int .i64 0, .int .i64 4])) := by
  have hbi : (1048576 : Int) < (b.length : Int) := by omega
  go_enter Tryd.func23, Tryd.ntmps23
  go_wp2
  go_returns
  exact Gives.mk rfl (Below.refl _ _)
set_option maxRecDepth 100000 in
set_option maxHeartbeats 4000000 in
theorem goodX_any (A : Option Addr) (cap : Nat) (b : List UInt8) (hb : b.length ≤ 1048576) (w : World) (ht : Tabs w) (B : Nat) (hB : B ≤ w.heap.size) (hs : SlAt w B 1 byteCells ⟨A, cap, b⟩) :
    Calls Tryd.prog 23 #[.slice A b.length cap] w fun e w' => ∃ (at_ : Nat) (l : List LogD) (er : Int), e = .returned (.tuple #[.int .i64 l.length, .int .i64 at_, .int .i64 0]) ∧ Ends b at_ l er ∧ Below w.heap.size w w' := by
  have hbi : (b.length : Int) ≤ 1048576 := by omega
  have KG := hide (good_any A cap b hb w ht B hB hs)
  clear hs ht
  go_enter Tryd.func23, Tryd.ntmps23
  go_wp2_with fail
  refine KG.out.mono ?_
  rintro e w1 ⟨v, at_, l, er, rfl, he, st⟩
  obtain ⟨A1, cap1, rfl, _⟩ := st.slAt logCells_len
  have HB := hide st.bel
  clear st
  go_wp2
  go_returns
  exact ⟨at_, l, er, rfl, he, HB.out⟩
set_option maxRecDepth 100000 in
set_option maxHeartbeats 4000000 in
theorem recover_long (A : Option Addr) (cap : Nat) (b : List UInt8) (hb : 1048576 < b.length) (w : World) : Calls Tryd.prog 24 #[.slice A b.length cap] w (Gives w (.tuple #[.slice none 0 0, .slice none 0 0, .int .i64 4])) := by
  have hbi : (1048576 : Int) < (b.length : Int) := by omega
  go_enter Tryd.func24, Tryd.ntmps24
  go_wp2
  go_returns
  exact Gives.mk rfl (Below.refl _ _)
set_option maxRecDepth 100000 in
set_option maxHeartbeats 4000000 in
theorem recover_any (A : Option Addr) (cap : Nat) (b : List UInt8) (hb : b.length ≤ 1048576) (w : World) (ht : Tabs w) (B : Nat) (hB : B ≤ w.heap.size) (hs : SlAt w B 1 byteCells ⟨A, cap, b⟩) :
    Calls Tryd.prog 24 #[.slice A b.length cap] w fun e w' => ∃ (v u : Value) (at_ : Nat) (l : List LogD) (er : Int), e = .returned (.tuple #[v, u, .int .i64 0]) ∧ Ends b at_ l er ∧ BRes w v (b.take at_) w' ∧ OwnSt 24 4 LogD.cells w u l w' := by
  have hbi : (b.length : Int) ≤ 1048576 := by omega
  have hlc : b.length ≤ cap := hs.1
  have KG := hide (good_any A cap b hb w ht B hB hs)
  have HS := hide hs
  clear hs ht
  go_enter Tryd.func24, Tryd.ntmps24
  go_wp2_with fail
  refine KG.out.mono ?_
  rintro e w1 ⟨v, at_, l, er, rfl, he, st⟩
  have HST := hide st
  have hat := he.at_le
  have HE := hide he
  have hst := fun W : World => slice_to (P := Tryd.prog) W 22 5 1 Tryd.underlying22 Tryd.sizeOf5 A b.length cap at_ (by omega)
  have hal : (b.take at_).length = at_ := by rw [List.length_take]; omega
  have KC := cloneB_any A cap (b.take at_) (by omega) w1 w1.heap.size ((HS.out.to (st.bel.mono hB) (show B ≤ w1.heap.size by have := st.bel.size; omega)).take at_)
  rw [hal] at KC
  have KC := hide KC
  clear st he hal
  go_wp2_with fail
  refine KC.out.mono ?_
  rintro e w2 ⟨v2, rfl, st2⟩
  go_wp2
  go_returns
  exact ⟨v2, v, at_, l, er, rfl, HE.out, (BRes.of_own st2).from HST.out.bel, HST.out.more st2.bel⟩
set_option maxRecDepth 100000 in
set_option maxHeartbeats 8000000 in
theorem decode_any (A : Option Addr) (cap : Nat) (b : List UInt8) (w : World) (ht : Tabs w) (B : Nat) (hB : B ≤ w.heap.size) (hs : SlAt w B 1 byteCells ⟨A, cap, b⟩) :
    Calls Tryd.prog 18 #[.slice A b.length cap] w fun e w' => ∃ (v : Value) (l : List LogD) (er : Int), e = .returned (.tuple #[v, .int .i64 er]) ∧ DecE b l er ∧ OwnSt 24 4 LogD.cells w v l w' := by
  rcases Nat.lt_or_ge 1048576 b.length with hb | hb
  · have hbi : (1048576 : Int) < (b.length : Int) := by omega
    have HF := hide (dec_long hb)
    clear hs ht
    go_enter Tryd.func18, Tryd.ntmps18
    go_wp2
    go_returns
    exact ⟨_, _, _, rfl, HF.out, OwnSt.start _ _ _ (Below.refl _ _)⟩
  · have hbi : (b.length : Int) ≤ 1048576 := by omega
    have hlc : b.length ≤ cap := hs.1
    have hlm : cap ≤ 9223372036854775807 := hs.2.1
    have KG := hide (good_any A cap b hb w ht B hB hs)
    have HS := hide hs
    have HT := hide ht
    clear hs ht
    go_enter Tryd.func18, Tryd.ntmps18
    go_wp2_with fail
    refine KG.out.mono ?_
    rintro e w1 ⟨v, k, l, er, rfl, he, st⟩
    have hat := he.at_le
    have HE := hide he
    have HST := hide st
    clear he
    by_cases hk : k = b.length
    · subst hk
      have HF := hide (dec_ok hb HE.out)
      clear st
      go_wp2
      go_ret2
      exact ⟨_, _, _, rfl, HF.out, HST.out⟩
    · have hlt : k < b.length := by omega
      obtain ⟨hstop, her⟩ := HE.out.stop_of hlt
      have HSTOP := hide hstop
      have HBAD := hide (dec_bad hb HE.out her)
      obtain ⟨g, off, hA, hgB, hcell⟩ := HS.out.2.2 (show 0 < b.length by omega)
      simp only at hA
      subst hA
      have hw1 := st.bel
      have hsr := HS.out.to (hw1.mono hB) (show B ≤ w1.heap.size by have := hw1.size; omega)
      have hsd := hsr.drop k (by omega)
      have hfr := fun W : World => slice_from (P := Tryd.prog) W 22 5 1 Tryd.underlying22 Tryd.sizeOf5 g off b.length cap k (by omega) (by omega)
      have hld : (b.drop k).length = b.length - k := List.length_drop
      have KE := hide (entry_any g (off + k * 1) (cap - k) (b.drop k) (by omega) (by omega) w1 (HT.out.below hw1) w1.heap.size (Nat.le_refl _) hsd)
      rw [hld, Nat.mul_one] at KE
      have HW1 := hide hw1
      have hne : ((k : Int) == (b.length : Int)) = false := by simp; omega
      clear hcell hw1 hsr hsd hld st hk hstop
      go_wp2_with fail
      refine KE.out.mono ?_
      rintro e w2 ⟨x, s, n, ok, rfl, hen, hb1⟩
      have HEN := hide hen
      have HB2 := hide (HW1.out.trans (hb1.mono HW1.out.size) : Below w.heap.size w w2)
      clear hen
      cases ok
      · have HF := hide (show er = 7 by
          have h1 := step_no (l := l) HEN.out
          rw [HSTOP.out] at h1
          injection h1)
        clear hb1
        go_wp2
        go_ret2
        refine ⟨_, _, _, rfl, by rw [← HF.out]; exact HBAD.out, OwnSt.start _ _ _ (HB2.out.alloc HB2.out.size _)⟩
      · obtain ⟨m, rfl, hmb, he, hline, hstep⟩ := step_yes (l := l) HEN.out (by omega)
        have hsh := entryE_shape he
        have HER := hide (stop_yes HSTOP.out hstep)
        obtain ⟨V, hV, hVs, hVb, hVh⟩ := boxed w2 (.cells #[.int .i64 x.day, .string x.rope, .int .i64 x.kind, .int .i64 x.runs] 24)
        have hVw : Below w.heap.size w V := HB2.out.trans (hVb.mono HB2.out.size)
        have HVW := hide hVw
        have hsV := HS.out.to (hVw.mono hB) (show B ≤ V.heap.size by have := hVw.size; omega)
        have hfr2 := fun W : World => slice_both (P := Tryd.prog) W 22 5 1 Tryd.underlying22 Tryd.sizeOf5 g off b.length cap k (m + 1) ((k : Int) + ((m : Int) + 1)) (by omega) (by omega) (by omega)
        have hlm1 : ((b.drop k).take (m + 1)).length = m + 1 := by rw [List.length_take, List.length_drop]; omega
        have KL := lastB_any (some ⟨g, off + k * 1, none⟩) (cap - k) ((b.drop k).take (m + 1)) V V.heap.size (Nat.le_refl _) ((hsV.drop k (by omega)).take (m + 1))
        rw [hlm1] at KL
        simp only [Nat.mul_one] at KL hfr2
        have KL := hide KL
        have hhl : (headE x).length ≤ m + 1 := by
          have := congrArg List.length hline
          rw [hlm1, List.length_append] at this; omega
        have hhl0 : 0 < (headE x).length := by obtain ⟨t, ht⟩ := head_last x; rw [ht]; simp
        have hpre : b.take (k + (headE x).length) = b.take k ++ headE x := by
          rw [List.take_add]
          congr 1
          have h2 : (b.drop k).take (headE x).length = ((b.drop k).take (m + 1)).take (headE x).length := by rw [List.take_take, Nat.min_eq_left hhl]
          rw [h2, hline, List.take_left']
          rfl
        have HLB := hide (fun (i : Int) (h : LastB ((b.drop k).take (m + 1)) i) => (show i = ((headE x).length : Int) - 1 by
          rw [hline] at h
          refine h.head (head_last x) fun c hc => ?_
          rcases List.mem_append.1 hc with h1 | h1
          · exact itoa_plain hsh.2.2.1 32 (by decide) c h1
          · rw [List.mem_singleton.1 h1]; decide))
        obtain ⟨H, hH⟩ : ∃ H, H = (headE x).length := ⟨_, rfl⟩
        rw [← hH] at hhl hhl0 hpre HLB
        have HV := hide hV
        have HPRE := hide hpre
        have hto := fun W : World => slice_to (P := Tryd.prog) W 22 5 1 Tryd.underlying22 Tryd.sizeOf5 (some ⟨g, off, none⟩) b.length cap (k + H) (by omega)
        have hkH : (b.take (k + H)).length = k + H := by rw [List.length_take]; omega
        have HKH := hide hkH
        clear hV hVs hVb hVh hVw hsV hlm1 hline hsh hstep he hH hpre hb1 hkH
        go_wp2_with fail
        rw [← HV.out]
        refine KL.out.mono ?_
        rintro e w3 ⟨i, rfl, hi, hb3⟩
        obtain rfl := HLB.out i hi
        have HB3 := hide (HVW.out.trans (hb3.mono HVW.out.size) : Below w.heap.size w w3)
        have KS := Gives.first (sum_any (some ⟨g, off, none⟩) cap (b.take (k + H)) w3 w3.heap.size (Nat.le_refl _) ((HS.out.to (HB3.out.mono hB) (show B ≤ w3.heap.size by have := HB3.out.size; omega)).take (k + H)))
        rw [HKH.out, HPRE.out] at KS
        have KS := hide KS
        have ei : (k : Int) + ((H : Int) - 1) + 1 = ((k + H : Nat) : Int) := by omega
        clear hi hb3
        obtain ⟨SV, hSV⟩ : ∃ SV : Int, SV = (sumE (b.take k ++ headE x) : Int) := ⟨_, rfl⟩
        rw [← hSV] at KS HER
        clear hSV
        go_wp2_with fail
        refine KS.out.mono ?_
        rintro e w4 ⟨rfl, y, rfl⟩
        have HB4 := hide (HB3.out.trans (y.below.mono HB3.out.size) : Below w.heap.size w y.val)
        by_cases hq : SV = s
        · have HF := hide (show er = 1 by rw [HER.out, if_pos hq])
          have hqq : (s != SV) = false := by simp [hq]
          clear hq HER
          go_wp2
          go_ret2
          refine ⟨_, _, _, rfl, by rw [← HF.out]; exact HBAD.out, OwnSt.start _ _ _ HB4.out⟩
        · have HF := hide (show er = 18 by rw [HER.out, if_neg hq])
          have hqq : (s != SV) = true := by simp; exact fun h => hq h.symm
          clear hq HER
          go_wp2
          go_ret2
          refine ⟨_, _, _, rfl, by rw [← HF.out]; exact HBAD.out, OwnSt.start _ _ _ HB4.out⟩
end Go.Proofs.YtemlaliackblkaaDoor
