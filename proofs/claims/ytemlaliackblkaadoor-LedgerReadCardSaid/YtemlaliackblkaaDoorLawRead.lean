/- loftblocklaw48.LedgerRead: the walk of the law. -/
import Derived.Test.YtemlaliackblkaaDoorLedAwake
namespace Go.Proofs.YtemlaliackblkaaDoor
open Go.RowKit

set_option maxRecDepth 100000 in
set_option maxHeartbeats 16000000 in
theorem ledgerRead_any (a : Sl LogD) (hok : ∀ x ∈ a.l, x.ok) (cut : Int) (hc0 : 0 ≤ cut) (hc1 : cut ≤ 65535) (w : World) (ht : Tabs w) (B : Nat) (hB : B ≤ w.heap.size) (hs : SlAt w B 4 LogD.cells a) :
    Calls Tryd.prog 8 #[.slice a.A a.l.length a.cap, .int .u16 cut] w (Gives w (.bool true)) := by
  obtain ⟨A, cap, l⟩ := a
  simp only at *
  have hlc : l.length ≤ cap := hs.1
  have hlm : cap ≤ 9223372036854775807 := hs.2.1
  have KA := hide (Gives.first (awake48 w ht))
  have hsl := fun y : After w.heap.size w => (hs.to (y.below.mono hB) hB).more (y.size)
  have HSL := hide hsl
  have KL := hide (fun y : After w.heap.size w => long_any A cap l y.val y.val.heap.size (Nat.le_refl _) (hsl y))
  have KV0 := fun y : After w.heap.size w => Gives.after (x := y) (Nat.le_refl _) (validL_any A cap l hok y.val y.val.heap.size (Nat.le_refl _) (hsl y))
  have KN := hide (fun (hv : logOk l = false) (y : After w.heap.size w) => Gives.after (x := y) (Nat.le_refl _) (encode_bad A cap l hok hv y.val y.val.heap.size (Nat.le_refl _) (hsl y)))
  have KY := hide (fun (hv : logOk l = true) (y : After w.heap.size w) => encode_any A cap l hv y.val (ht.below y.below) y.val.heap.size (Nat.le_refl _) (hsl y))
  have HT := hide (fun y : After w.heap.size w => ht.below y.below)
  obtain ⟨lg, hlg⟩ : ∃ lg, lg = logOk l := ⟨_, rfl⟩
  rw [← hlg] at KV0
  have KV := hide KV0
  have HLG := hide hlg
  clear hs ht hok hsl hlg KV0
  go_enter Tryd.func8, Tryd.ntmps8
  go_wp2_with fail
  refine KA.out.mono ?_
  rintro e w1 ⟨rfl, y, rfl⟩
  go_wp2_with fail
  refine (KL.out y).mono ?_
  rintro e w1 ⟨lv, rfl, hb⟩
  obtain ⟨y, rfl⟩ := After.exists_iff (y.below.trans (hb.mono y.size))
  clear hb
  cases lv
  · rcases (show 20 < (l.length : Int) ∨ (l.length : Int) ≤ 20 by omega) with h20 | h20
    · go_wp2
      go_ret
      exact Gives.mk rfl y.below
    · cases lg
      · go_wp2_with fail
        refine (KN.out HLG.out.symm y).mono ?_
        rintro e w1 ⟨rfl, y, rfl⟩
        go_wp2_with fail
        refine (KV.out y).mono ?_
        rintro e w1 ⟨rfl, y, rfl⟩
        go_wp2
        go_ret
        exact Gives.mk rfl y.below
      · have hv := HLG.out.symm
        go_wp2_with fail
        refine (KY.out hv y).mono ?_
        rintro e w1 ⟨v1, rfl, A1, c1, rfl, hn1, hs1, hb1⟩
        obtain ⟨y, rfl⟩ := After.exists_iff (y.below.trans (hb1.mono y.size))
        clear hb1
        have hshort := enc_short hv l.length
        rw [List.take_length] at hshort
        obtain ⟨bl, hbl⟩ : ∃ bl, bl = encE l := ⟨_, rfl⟩
        rw [← hbl] at hs1 hshort ⊢
        have hbc : bl.length ≤ c1 := hs1.1
        have hbm : c1 ≤ 9223372036854775807 := hs1.2.1
        obtain ⟨K, hK⟩ : ∃ K, K = cut.toNat % (bl.length + 1) := ⟨_, rfl⟩
        have hKl : K ≤ bl.length := by have := Nat.mod_lt cut.toNat (show 0 < bl.length + 1 by omega); omega
        have hKi : cut % ((bl.length : Int) + 1) = (K : Int) := by rw [hK]; push_cast; rw [Int.toNat_of_nonneg hc0]
        have hKt : cut.tmod ((bl.length : Int) + 1) = (K : Int) := by rw [Int.tmod_eq_emod_of_nonneg hc0]; exact hKi
        have HCE := hide (show ∃ n e, n ≤ l.length ∧ (bl.take K).count 10 = n ∧ (encE (l.take n)).length ≤ K ∧ bl.take (encE (l.take n)).length = encE (l.take n) ∧ Ends (bl.take K) (encE (l.take n)).length (l.take n) e ∧ (e = 0 ↔ (encE (l.take n)).length = K) from by rw [hbl] at hKl ⊢; exact cut_ends hv hKl)
        have HCN := hide (show bl.count 10 = l.length from by have := enc_count hv l.length (Nat.le_refl _); rw [List.take_length] at this; rw [hbl]; exact this)
        have HDE := hide (fun (l1 : List LogD) (e1 : Int) (h : DecE bl l1 e1) => (show l1 = l ∧ e1 = 0 from by rw [hbl] at h hshort; exact h.same (DecE.enc hv (by omega))))
        have hkl : (bl.take K).length = K := by rw [List.length_take]; omega
        obtain ⟨n, er, hn, hcnt, hatk, hpre, hends, her⟩ := HCE.out
        have hS1 := fun z : After y.val.heap.size y.val => (hs1.to z.below z.size : SlAt z.val z.val.heap.size 1 byteCells ⟨A1, c1, bl⟩)
        have hS1k := fun z : After y.val.heap.size y.val => ((hS1 z).take K : SlAt z.val z.val.heap.size 1 byteCells ⟨A1, c1, bl.take K⟩)
        have hWZ : ∀ z : After y.val.heap.size y.val, Below w.heap.size w z.val := fun z => y.below.trans (z.below.mono y.size)
        have hTZ := fun z : After y.val.heap.size y.val => HT.out ⟨z.val, hWZ z⟩
        have hLZ := fun z : After y.val.heap.size y.val => HSL.out ⟨z.val, hWZ z⟩
        simp only at hTZ hLZ
        obtain ⟨M, hM⟩ : ∃ M, M = l.take n := ⟨_, rfl⟩
        have hMl : M.length = n := by rw [hM, List.length_take]; omega
        obtain ⟨AT, hAT⟩ : ∃ AT, AT = (encE (l.take n)).length := ⟨_, rfl⟩
        rw [← hAT] at hatk hends her
        rw [← hM] at hends
        have hpl : ((bl.take K).take AT) = bl.take AT := by rw [List.take_take, Nat.min_eq_left hatk]
        have hpz : (bl.take AT).length = AT := by rw [List.length_take]; omega
        have KD := hide (decode_any A1 c1 bl y.val (HT.out y) y.val.heap.size (Nat.le_refl _) hs1)
        have KQ := hide (fun (z : After y.val.heap.size y.val) L2 c2 (h : SlAt z.val z.val.heap.size 4 LogD.cells ⟨L2, c2, l⟩) => Gives.after (x := z) (Nat.le_refl _) (equalSame_any l L2 A c2 cap z.val z.val.heap.size z.val.heap.size (Nat.le_refl _) (Nat.le_refl _) h (hLZ z)))
        have hal := fun (z : After y.val.heap.size y.val) => (Below.alloc z.below z.size (.cells #[.int .u8 10] 5 (1, 2)) : Below y.val.heap.size y.val (z.val.alloc (.cells #[.int .u8 10] 5 (1, 2))))
        have hct := fun (z : After y.val.heap.size y.val) => (show (z.val.alloc (.cells #[.int .u8 10] 5 (1, 2))).cell? ⟨z.val.heap.size, 0, none⟩ = some (.int .u8 10) from (Lib.cell_of_heap (heap_alloc_new z.val _) 0).trans rfl)
        have KC1 := hide (fun z : After y.val.heap.size y.val => (show Calls Tryd.prog 30 #[.slice A1 bl.length c1, .slice (some ⟨z.val.heap.size, 0, none⟩) 1 1] (z.val.alloc (.cells #[.int .u8 10] 5 (1, 2))) fun e w' => e = .returned (.int .i64 l.length) ∧ ∃ q : After y.val.heap.size y.val, w' = q.val from by
          have h := Gives.after (x := ⟨_, hal z⟩) (Nat.le_refl _) (countByte_any (d := 1) (hS1 ⟨_, hal z⟩) hn1 (hct z))
          rw [HCN.out] at h
          exact h))
        have KC2 := hide (fun z : After y.val.heap.size y.val => (show Calls Tryd.prog 30 #[.slice A1 K c1, .slice (some ⟨z.val.heap.size, 0, none⟩) 1 1] (z.val.alloc (.cells #[.int .u8 10] 5 (1, 2))) fun e w' => e = .returned (.int .i64 n) ∧ ∃ q : After y.val.heap.size y.val, w' = q.val from by
          have h := Gives.after (x := ⟨_, hal z⟩) (Nat.le_refl _) (countByte_any (d := 1) (hS1k ⟨_, hal z⟩) hn1 (hct z))
          rw [hkl, hcnt] at h
          exact h))
        have KR := hide (fun z : After y.val.heap.size y.val => (show Calls Tryd.prog 24 #[.slice A1 K c1] z.val fun e w' => ∃ Ap cp Am cm, e = .returned (.tuple #[.slice Ap AT cp, .slice Am n cm, .int .i64 0]) ∧ Hid (SlAt w' w'.heap.size 1 byteCells ⟨Ap, cp, bl.take AT⟩) ∧ Hid (SlAt w' w'.heap.size 4 LogD.cells ⟨Am, cm, M⟩) ∧ Below z.val.heap.size z.val w' from by
          have h := recover_any A1 c1 (bl.take K) (by omega) z.val (hTZ z) z.val.heap.size (Nat.le_refl _) (hS1k z)
          rw [hkl] at h
          refine h.mono ?_
          rintro e w' ⟨v, u, at2, L2, e2, rfl, hE, ⟨Ap, cp, rfl, _, hp, hb⟩, st⟩
          obtain ⟨rfl, rfl, rfl⟩ := hends.same hE
          obtain ⟨Am, cm, rfl, hm⟩ := st.slAt logCells_len
          rw [hpl] at hp ⊢
          rw [hpz, hMl]
          exact ⟨_, _, _, _, rfl, hide hp, hide hm, hb⟩))
        have KG := hide (fun z : After y.val.heap.size y.val => (show Calls Tryd.prog 23 #[.slice A1 K c1] z.val fun e w' => e = .returned (.tuple #[.int .i64 n, .int .i64 AT, .int .i64 0]) ∧ Below z.val.heap.size z.val w' from by
          have h := goodX_any A1 c1 (bl.take K) (by omega) z.val (hTZ z) z.val.heap.size (Nat.le_refl _) (hS1k z)
          rw [hkl] at h
          refine h.mono ?_
          rintro e w' ⟨at2, L2, e2, rfl, hE, hb⟩
          obtain ⟨rfl, rfl, rfl⟩ := hends.same hE
          rw [hMl]
          exact ⟨rfl, hb⟩))
        have KD2 := hide (fun z : After y.val.heap.size y.val => (show Calls Tryd.prog 18 #[.slice A1 K c1] z.val fun e w' => ∃ v, e = .returned (.tuple #[v, .int .i64 er]) ∧ Below z.val.heap.size z.val w' from by
          have h := decode_any A1 c1 (bl.take K) z.val (hTZ z) z.val.heap.size (Nat.le_refl _) (hS1k z)
          rw [hkl] at h
          refine h.mono ?_
          rintro e w' ⟨v, L2, e2, rfl, hD, st⟩
          rcases hD with ⟨h1, _⟩ | ⟨_, at2, k2, hE, _⟩
          · omega
          · obtain ⟨_, _, rfl⟩ := hends.same hE
            exact ⟨_, rfl, st.bel⟩))
        have KM := hide (fun (z : After y.val.heap.size y.val) Am cm (h : ∃ B, SlAt z.val B 4 LogD.cells ⟨Am, cm, M⟩ ∧ B ≤ z.val.heap.size) => (show Calls Tryd.prog 20 #[.slice Am n cm, .slice A n cap] z.val (Gives z.val (.bool true)) from by
          obtain ⟨B2, h2, hB2⟩ := h
          have h3 := equalSame_any M Am A cm cap z.val B2 z.val.heap.size hB2 (Nat.le_refl _) h2 (by rw [hM]; exact (hLZ z).take n)
          rw [hMl] at h3
          exact h3))
        have KP := hide (fun (z : After y.val.heap.size y.val) Ap cp (h : ∃ B, SlAt z.val B 1 byteCells ⟨Ap, cp, bl.take AT⟩) => (show Calls Tryd.prog 13 #[.slice Ap AT cp, .slice A1 AT c1] z.val (Gives z.val (.bool true)) from by
          obtain ⟨B2, h2⟩ := h
          have h3 := equalBytes_any h2 ((hS1 z).take AT)
          rw [hpz, show (bl.take AT == bl.take AT) = true by simp] at h3
          exact h3))
        have HWZ := hide hWZ
        have hcb := fun (W : World) (C : Array Value) (n c : Nat) => Lib.run_convert_bytes_const (P := Tryd.prog) W 22 5 C n c Tryd.underlying22 Tryd.underlying5
        have hto := fun W : World => slice_to (P := Tryd.prog) W 22 5 1 Tryd.underlying22 Tryd.sizeOf5 A1 bl.length c1 K (by omega)
        have hto2 := fun W : World => slice_to (P := Tryd.prog) W 22 5 1 Tryd.underlying22 Tryd.sizeOf5 A1 bl.length c1 AT (by omega)
        have hto3 := fun W : World => slice_to (P := Tryd.prog) W 34 24 4 Tryd.underlying34 Tryd.sizeOf24 A l.length cap n (by omega)
        have HER := hide her
        have hnl : (n : Int) ≤ (l.length : Int) := by omega
        have hak : (AT : Int) ≤ (K : Int) := by omega
        clear hcnt hpre hends her hs1 hS1 hS1k hWZ hTZ hLZ hM hMl hAT hpl hpz hal hct hbl hK HCE hkl hatk hn hKl
        go_wp2_with fail
        refine KD.out.mono ?_
        rintro e w2 ⟨v2, l2, e2, rfl, hd, st⟩
        obtain ⟨rfl, rfl⟩ := HDE.out l2 e2 hd
        obtain ⟨L2, c2, rfl, hs2⟩ := st.slAt logCells_len
        obtain ⟨z, rfl⟩ := After.exists_iff st.bel
        have KQ2 := hide (KQ.out z L2 c2 hs2)
        clear hd st hs2 KD KQ
        go_wp2_with fail
        refine KQ2.out.mono ?_
        rintro e w3 ⟨rfl, z, rfl⟩
        go_wp2_with fail
        refine (KC1.out z).mono ?_
        rintro e w3 ⟨rfl, z, rfl⟩
        go_wp2_with fail
        refine (KR.out z).mono ?_
        rintro e w3 ⟨Ap, cp, Am, cm, rfl, hp, hm, hb3⟩
        obtain ⟨z3, rfl⟩ := After.exists_iff (z.below.trans (hb3.mono z.size))
        clear hb3
        go_wp2_with fail
        refine (KG.out z3).mono ?_
        rintro e w4 ⟨rfl, hb4⟩
        obtain ⟨z4, rfl⟩ := After.exists_iff (z3.below.trans (hb4.mono z3.size))
        have hm4 := hide (hm.out.below hb4)
        have hp4 := hide (hp.out.below hb4)
        have hz34 := hb4.size
        have KM4 := hide (KM.out z4 Am cm ⟨_, hm4.out, hz34⟩)
        clear hb4
        go_wp2_with fail
        refine KM4.out.mono ?_
        rintro e w5 ⟨rfl, hb5⟩
        obtain ⟨z5, rfl⟩ := After.exists_iff (z4.below.trans (hb5.mono z4.size))
        have KP5 := hide (KP.out z5 Ap cp ⟨_, hp4.out.below (hb5.mono hz34)⟩)
        clear hb5
        go_wp2_with fail
        refine KP5.out.mono ?_
        rintro e w6 ⟨rfl, hb6⟩
        obtain ⟨z6, rfl⟩ := After.exists_iff (z5.below.trans (hb6.mono z5.size))
        clear hb6
        go_wp2_with fail
        refine (KC2.out z6).mono ?_
        rintro e w7 ⟨rfl, z7, rfl⟩
        go_wp2_with fail
        refine (KD2.out z7).mono ?_
        rintro e w8 ⟨v8, rfl, hb8⟩
        obtain ⟨z8, rfl⟩ := After.exists_iff (z7.below.trans (hb8.mono z7.size))
        clear hb8
        by_cases h0 : er = 0
        · have hq := HER.out.1 h0
          have hq1 : (er == 0) = true := by simp [h0]
          have hq2 : ((AT : Int) == (K : Int)) = true := by simp [hq]
          clear h0 hq
          go_wp2
          go_ret
          exact Gives.mk rfl (HWZ.out z8)
        · have hq : ¬ AT = K := fun h => h0 (HER.out.2 h)
          have hq1 : (er == 0) = false := by simpa using h0
          have hq2 : ((AT : Int) == (K : Int)) = false := by simp; omega
          clear h0 hq
          go_wp2
          go_ret
          exact Gives.mk rfl (HWZ.out z8)
  · go_wp2
    go_ret
    exact Gives.mk rfl y.below
end Go.Proofs.YtemlaliackblkaaDoor
