/- read: the tokens of a text, and what they say. -/
import Derived.Test.YtnjbfhfjdhfdlaaGreatDoorSrcQ
namespace Go.Proofs.YtnjbfhfjdhfdlaaGreatDoor
open Go.RowKit

theorem addr_add (b n : Nat) : (⟨b, 0, none⟩ : Addr).add n = ⟨b, n, none⟩ := by
  unfold Addr.add
  split
  · rename_i h; rw [h]
  · simp
set_option maxRecDepth 100000 in
set_option maxHeartbeats 8000000 in
theorem read_any (s : ByteArray) (hs : s.size ≤ 262144) (w : World) (hc : TabsS w) : Calls Tryz.prog 44 #[.string s] w (ReadPost w (toks (bs s))) := by
  have hmf : ∀ (fn : Fn) (first cap : Array Value) (w : World), (Instr.makeFunc fn first cap).run Tryz.prog w = .ok (.func fn first cap) w := fun _ _ _ _ => rfl
  obtain ⟨b, hb⟩ : ∃ b, b = w.heap.size := ⟨_, rfl⟩
  obtain ⟨U1, hU1, hU1s, hU1b, hU1h⟩ := boxed w (.cells #[.pointer none] 95)
  obtain ⟨U2, hU2, hU2s, hU2b, hU2h⟩ := boxed U1 (.cells #[.int .i64 0, .int .i64 0] 40)
  obtain ⟨U, hU3, hU3s, hU3b, hU3h⟩ := boxed U2 (.cells #[.int .i64 0] 32)
  rw [hU1s] at hU2s hU2h hU2b
  rw [hU2s] at hU3s hU3h hU3b
  rw [← hb] at hU1s hU1b hU1h hU2s hU2h hU2b hU3s hU3h hU3b
  have hwU : Below b w U := (hU1b.trans (hU2b.mono (by omega))).trans (hU3b.mono (by omega))
  have hres : Res3 b (.pointer none) (.int .i64 0) (.int .i64 0) (.int .i64 0) U := ⟨(hU3b.block _ (by omega)).trans ((hU2b.block _ (by omega)).trans hU1h), (hU3b.block _ (by omega)).trans hU2h, hU3h⟩
  have HT := hide (tokens_any s hs U)
  have HWU := hide hwU
  have HRES := hide hres
  have HU := hide (show ((w.alloc (.cells #[.pointer none] 95)).alloc (.cells #[.int .i64 0, .int .i64 0] 40)).alloc (.cells #[.int .i64 0] 32) = U by rw [← hU1, ← hU2, ← hU3])
  have HC := hide hc
  have HB := hide hb
  clear hU1 hU1s hU1b hU1h hU2 hU2s hU2b hU2h hU3 hU3b hU3h hwU hres hc hb
  go_enter_defers Tryz.func44, Tryz.ntmps44
  go_upto_region 1 with fail
  rw [HU.out, ← HB.out]
  go_wp2_with fail
  refine HT.out.mono ?_
  rintro e w1 hp
  cases htk : toks (bs s) with
  | bad a c =>
    rw [htk] at hp
    obtain ⟨hb1, rfl⟩ := hp
    have HTK := hide htk
    clear htk
    have r0 := HRES.out.kept hb1 (by rw [hU3s]; omega)
    have r1 := r0.setL (.int .i64 a)
    have r2 := r1.setC (.int .i64 c)
    have r3 := r2.setE (.int .i64 7)
    have r4 := r3.setR (.pointer none)
    have r5 := r4.setL (.int .i64 a)
    have r6 := r5.setC (.int .i64 c)
    have r7 := r6.setE (.int .i64 7)
    obtain ⟨f0, g0⟩ := r0.cells1
    obtain ⟨f1, g1⟩ := r1.cells1
    obtain ⟨f2, g2⟩ := r2.cells1
    obtain ⟨f3, g3⟩ := r3.cells1
    obtain ⟨f4, g4⟩ := r4.cells1
    obtain ⟨f5, g5⟩ := r5.cells1
    obtain ⟨f6, g6⟩ := r6.cells1
    obtain ⟨f7, g7⟩ := r7.cells1
    have HR := hide (And.intro r3 r7)
    have HBL := hide (HWU.out.trans (hb1.mono (show b ≤ U.heap.size by rw [hU3s]; omega)))
    clear r0 r1 r2 r3 r4 r5 r6 r7 hb1
    go_wp2_with fail
    go_region
    all_goals
      go_simp
      go_wp2_with fail
      refine ⟨.tuple #[.pointer none, .agg #[.int .i64 a, .int .i64 c], .int .i64 7], ?_, ?_, ?_⟩
      · simp [results, Tryz.results44, go_sem, f7]
      · rw [← HB.out]
        exact (((((((HBL.out.setCell (p := ⟨b + 1, 0, none⟩) (by simp only; omega) _).setCell (p := ⟨b + 1, 1, none⟩) (by simp only; omega) _).setCell (p := ⟨b + 1 + 1, 0, none⟩) (by simp only; omega) _).setCell (p := ⟨b, 0, none⟩) (Nat.le_refl _) _).setCell (p := ⟨b + 1, 0, none⟩) (by simp only; omega) _).setCell (p := ⟨b + 1, 1, none⟩) (by simp only; omega) _).setCell (p := ⟨b + 1 + 1, 0, none⟩) (by simp only; omega) _).drew
      · rw [HTK.out]
  | good L =>
    rw [htk] at hp
    obtain ⟨hb1, v, rfl, hown⟩ := hp
    obtain ⟨hl5, hln, hts⟩ := toks_fit htk
    have HTK := hide htk
    clear htk
    have r0 := HRES.out.kept hb1 (by rw [hU3s]; omega)
    have r1 := r0.setL (.int .i64 0)
    have r2 := r1.setC (.int .i64 0)
    have r3 : Res3 b _ _ _ _ (((w1.setCell ⟨b + 1, 0, none⟩ (.int .i64 0)).setCell ⟨b + 1, 1, none⟩ (.int .i64 0)).setCell ⟨b + 1 + 1, 0, none⟩ (.int .i64 0)) := r2.setE (.int .i64 0)
    obtain ⟨f0, g0⟩ := r0.cells1
    obtain ⟨f1, g1⟩ := r1.cells1
    obtain ⟨f2, g2⟩ := r2.cells1
    obtain ⟨f3, g3⟩ := r3.cells1
    clear r0 r1 r2
    go_upto_region 5 with fail
    obtain ⟨x0, hx0⟩ : ∃ x, x = (((w1.setCell ⟨b + 1, 0, none⟩ (.int .i64 0)).setCell ⟨b + 1, 1, none⟩ (.int .i64 0)).setCell ⟨b + 1 + 1, 0, none⟩ (.int .i64 0)) := ⟨_, rfl⟩
    have hbl := HWU.out.trans (hb1.mono (show b ≤ U.heap.size by rw [hU3s]; omega))
    have hb0 : Below b w x0 := by
      rw [hx0]
      exact ((hbl.setCell (p := ⟨b + 1, 0, none⟩) (by simp only; omega) _).setCell (p := ⟨b + 1, 1, none⟩) (by simp only; omega) _).setCell (p := ⟨b + 1 + 1, 0, none⟩) (by simp only; omega) _
    have hown0 : x0.ownsRow U.heap.size 135 4 v L.length (tokCells L) := own_block hown (fun g hg => by
      have := own_owner hown g hg
      rw [hx0, Below.heap_setCell _ _ _ _ (by simp only; omega), Below.heap_setCell _ _ _ _ (by simp only; omega), Below.heap_setCell _ _ _ _ (by simp only; omega)])
    rw [← hx0] at r3 f3 g3 ⊢
    have hLpos : 0 < L.length := by
      cases L with
      | nil => exact absurd rfl hl5.ne
      | cons t r => simp
    obtain ⟨tb, cap, rfl, htb, htl⟩ := World.ownsRow.form hown0 hLpos
    have hcap : L.length ≤ cap ∧ cap ≤ maxLen := by
      rcases own_cases hown0 with ⟨h1, _⟩ | ⟨g, cur, h1, h2, h3, h4, h5, _⟩
      · cases h1
      · exact ⟨h4, h5⟩
    obtain ⟨X, hX, hXs, hXb, hXh⟩ := boxed x0 (.cells #[.slice (some ⟨tb, 0, none⟩) L.length cap, .int .i64 0, .string ⟨#[]⟩, .int .i64 0, .slice none 0 0, .slice none 0 0, .slice none 0 0, .slice none 0 0] 100)
    obtain ⟨rb, hrb⟩ : ∃ r, r = x0.heap.size := ⟨_, rfl⟩
    rw [← hrb] at hXs hXb hXh htl
    have hrbb : b + 2 < rb := by have := (Array.getElem?_eq_some_iff.1 r3.e).1; omega
    have rX := r3.kept hXb hrbb
    have fA : ∀ o, (x0.alloc o).cell? ⟨b, 0, none⟩ = some (.pointer none) ∧ (x0.alloc o).frozen? ⟨b, 0, none⟩ = false := fun o => by
      have h1 := (heap_alloc_old x0 o (by omega : b < x0.heap.size)).trans r3.r
      exact ⟨(Joins.cell_of_block h1 0).trans rfl, block_unfrozen h1 0⟩
    have rY := rX.setR (.pointer (some ⟨rb, 0, none⟩))
    have hYh : (X.setCell ⟨b, 0, none⟩ (.pointer (some ⟨rb, 0, none⟩))).heap[rb]? = some (.cells #[.slice (some ⟨tb, 0, none⟩) L.length cap, .int .i64 0, .string ⟨#[]⟩, .int .i64 0, .slice none 0 0, .slice none 0 0, .slice none 0 0, .slice none 0 0] 100 (0, 0)) := (Below.heap_setCell _ _ _ _ (by simp only; omega)).trans hXh
    have HRD := hide (show Rq w b rb (.slice (some ⟨tb, 0, none⟩) L.length cap) L 0 ⟨⟨#[]⟩, 0, [], []⟩ ⟨[], []⟩ (X.setCell ⟨b, 0, none⟩ (.pointer (some ⟨rb, 0, none⟩))) from
      ⟨(hb0.trans (hXb.mono (by omega))).setCell (p := ⟨b, 0, none⟩) (Nat.le_refl _) _, rY, RSt.start ⟨hYh, tb, cap, rfl, hcap.1, hcap.2, by omega, by simp [World.setCell]; omega, fun i t hi j u hu => by
        refine (World.cell?_of_block (a := ⟨tb, i * 4 + j, none⟩) ((Below.heap_setCell _ _ _ _ (by simp only; rw [hU3s] at htb; omega)).trans (hXb.block tb htl))).trans ?_
        have h9 := World.ownsRow.cells hown0 rfl (i * 4 + j) u (tokCells_get L i t hi j u hu)
        rw [← addr_add]
        exact h9⟩ (fun tb' cap' e => by injection e with e; injection e with e; injection e with e; omega), hrbb⟩)
    have HX := hide hX
    have HRB := hide hrb
    have HL5 := hide hl5
    have hbig : L.length ≤ 1000000 := by have : (bs s).length = s.size := bs_length s; omega
    have hts' : ∀ t ∈ L, t.text.size ≤ 1000000 := fun t ht => by have h1 := hts t ht; have : (bs s).length = s.size := bs_length s; omega
    have HTS := hide hts'
    clear hx0 hbl hb0 hown hown0 r3 hXs hXb hXh hX hrb rX rY hYh hts hts' hl5 f0 g0 f1 g1 f2 g2 hb1
    have HTB := hide (show b + 2 < tb by rw [hU3s] at htb; omega)
    clear htl hcap htb
    go_upto_region 6 with fail
    rw [← HRB.out, ← HX.out]
    obtain ⟨y0, hy0⟩ : ∃ y, y = X.setCell ⟨b, 0, none⟩ (.pointer (some ⟨rb, 0, none⟩)) := ⟨_, rfl⟩
    rw [← hy0] at HRD ⊢
    clear hy0 fA f3 g3
    have KB := hide (blank_q HRD.out (by simpa using HL5.out) hbig)
    have cl0 := HRD.out.res.cells1.1.1
    go_wp2_with fail
    refine KB.out.mono ?_
    rintro e y1 ⟨rfl, n1, hd1, hq1⟩
    rw [List.drop_zero] at hd1
    have HQ1 := hide hq1
    have HD1 := hide hd1
    have HL1 := hide (show Last5 (L.drop n1) by rw [hd1]; exact (blank_gd L HL5.out).2)
    have cl1 := hq1.res.cells1.1.1
    clear cl0 KB hd1
    obtain ⟨Z, hZ, hZs, hZb, hZh⟩ := boxed y1 (.cells #[.string ⟨#[104, 111, 117, 115, 101]⟩] 9)
    have KT := hide (take_q (hq1.more hZb) HL1.out hbig 1 _ houseW (texts_of [sHouse] (by decide) (by decide) hZh houseW house_texts 1))
    rw [HD1.out] at KT
    have HZ := hide hZ
    clear hZ hZs hZb hZh hq1
    go_wp2_with fail
    rw [← HZ.out]
    refine KT.out.mono ?_
    rintro e y2 hx
    unfold QPost at hx
    clear KT HZ cl1
    cases ht : takeR 1 houseW (blankR L) with
    | error q =>
      rw [ht] at hx
      obtain ⟨rfl, hbel, hres⟩ := hx
      exact door_panic hres q.1 q.2 rfl rfl rfl (fun x' hx' => ReadPost.err HB.out HTK.out (readR_take ht) (hbel.trans hx'))
    | ok v =>
      obtain ⟨hw, r2⟩ := v
      rw [ht] at hx
      obtain ⟨rfl, n2, hd2, hq2⟩ := hx
      have hgd := take_gd (k := 1) (by decide) houseW (blankR L) (by rw [← HD1.out]; exact HL1.out)
      rw [ht] at hgd
      have HL2 := hide (show Last5 (L.drop n2) by rw [hd2]; exact hgd.2)
      have HD2 := hide hd2
      have HQ2 := hide hq2
      have HT2 := hide ht
      have cl2 := hq2.res.cells1.1.1
      clear hgd hd2 hq2 ht
      go_upto_region 8 with fail
      have KN := name_q (HQ2.out.more (Below.refl _ _).drew) HL2.out hbig
      rw [HD2.out] at KN
      cases hn : nameR r2 with
      | error q =>
        have KE := hide (show Calls Tryz.prog 85 #[.pointer (some ⟨rb, 0, none⟩)] y2.drew (fun e y => e = .panicked [{ v := .iface 131 (.agg #[.int .i64 q.1, .int .i64 q.2]), recovered := false }] ∧ Below b w y ∧ Res3 b (.pointer (some ⟨rb, 0, none⟩)) (.int .i64 0) (.int .i64 0) (.int .i64 0) y) from KN.mono (fun e y h => by
          rw [hn] at h
          exact h))
        clear KN
        go_region_law ((go_simp; go_at_call 85; refine KE.out.mono ?_; rintro e y3 ⟨rfl, hbel, hres⟩; refine dead_end (md := .any) (a := ⟨#[], []⟩) (w := y3) ?_ ?_; focus (exact door_panic hres q.1 q.2 rfl rfl rfl (fun x' hx' => ReadPost.err HB.out HTK.out (readR_name HT2.out hn) (hbel.trans hx')))))
        all_goals exact trivial
      | ok v =>
        obtain ⟨nm, r3⟩ := v
        have KO := hide (show Calls Tryz.prog 85 #[.pointer (some ⟨rb, 0, none⟩)] y2.drew (fun e y => e = .returned (.string nm) ∧ ∃ m, L.drop m = r3 ∧ Rq w b rb (.slice (some ⟨tb, 0, none⟩) L.length cap) L m ⟨⟨#[]⟩, 0, [], []⟩ ⟨[], []⟩ y) from KN.mono (fun e y h => by
          rw [hn] at h
          exact h))
        have hgd := name_gd r2 (HD2.out ▸ HL2.out)
        rw [hn] at hgd
        have HL3 := hide hgd.2
        have HN := hide hn
        clear KN hn hgd
        go_cut [27] from 25 to 30 (fun _ wx => ∃ m, L.drop m = r3 ∧ Rq w b rb (.slice (some ⟨tb, 0, none⟩) L.length cap) L m ⟨nm, 0, [], []⟩ ⟨[], []⟩ wx)
        case first =>
          first | go_region_law ((go_simp; go_at_call 85; refine KO.out.mono ?_; rintro e y3 ⟨rfl, m3, hd3, hq3⟩; have cl3 := hq3.res.cells1.1.1; obtain ⟨⟨cv, hcv⟩, hfr, hq3'⟩ := hq3.setName nm; have HQ3 := hide (And.intro hd3 hq3'); clear hd3 hq3 hq3')) | fail
          all_goals
            go_wp2_with fail
            go_meet
            exact ⟨m3, HQ3.out.1, HQ3.out.2⟩
        case rest =>
        obtain ⟨m3, hd3, hq3⟩ := hcut
        have HQ3 := hide hq3
        have HD3 := hide hd3
        have cl3 := hq3.res.cells1.1.1
        have hL3 : Last5 (L.drop m3) := hd3 ▸ HL3.out
        have KN := number_q (hq3.more (Below.refl _ _).drew) hL3 hbig HTS.out HC.out HB.out
        rw [hd3] at KN
        clear hq3 hd3 cl2 KO
        go_upto_region 9 with fail
        cases hv : numR r3 with
        | error q =>
          have KE := hide (show Calls Tryz.prog 86 #[.pointer (some ⟨rb, 0, none⟩)] wc.drew (fun e y => e = .panicked [{ v := .iface 131 (.agg #[.int .i64 q.1, .int .i64 q.2]), recovered := false }] ∧ Below b w y ∧ Res3 b (.pointer (some ⟨rb, 0, none⟩)) (.int .i64 0) (.int .i64 0) (.int .i64 0) y) from KN.mono (fun e y h => by
            rw [hv] at h
            exact h))
          clear KN
          go_region_law ((go_simp; go_at_call 86; refine KE.out.mono ?_; rintro e y4 ⟨rfl, hbel, hres⟩; refine dead_end (md := .any) (a := ⟨#[], []⟩) (w := y4) ?_ ?_; focus (exact door_panic hres q.1 q.2 rfl rfl rfl (fun x' hx' => ReadPost.err HB.out HTK.out (readR_num HT2.out HN.out hv) (hbel.trans hx')))))
          all_goals exact trivial
        | ok v =>
        obtain ⟨ht, r4⟩ := v
        have KO := hide (show Calls Tryz.prog 86 #[.pointer (some ⟨rb, 0, none⟩)] wc.drew (fun e y => e = .returned (.int .i64 ht) ∧ ∃ m, L.drop m = r4 ∧ Rq w b rb (.slice (some ⟨tb, 0, none⟩) L.length cap) L m ⟨nm, 0, [], []⟩ ⟨[], []⟩ y) from KN.mono (fun e y h => by
          rw [hv] at h
          exact h))
        have hgd := num_gd r3 HL3.out
        rw [hv] at hgd
        have HL4 := hide hgd.2
        have HV := hide hv
        clear KN hv hgd hL3
        go_cut [34] from 31 to 36 (fun _ wx => ∃ m, L.drop m = r4 ∧ Rq w b rb (.slice (some ⟨tb, 0, none⟩) L.length cap) L m ⟨nm, ht, [], []⟩ ⟨[], []⟩ wx)
        case first =>
          first | go_region_law ((go_simp; go_at_call 86; refine KO.out.mono ?_; rintro e y4 ⟨rfl, m4, hd4, hq4⟩; have cl4 := hq4.res.cells1.1.1; obtain ⟨⟨cv, hcv⟩, hfr, hq4'⟩ := hq4.setHeight ht; have HQ4 := hide (And.intro hd4 hq4'); clear hd4 hq4 hq4')) | fail
          all_goals
            go_wp2_with fail
            go_meet
            exact ⟨m4, HQ4.out.1, HQ4.out.2⟩
        case rest =>
        obtain ⟨m4, hd4, hq4⟩ := hcut
        have cl4 := hq4.res.cells1.1.1
        have hL4 : Last5 (L.drop m4) := hd4 ▸ HL4.out
        have KT := hide (take_q hq4 hL4 hbig 4 (.slice none 0 0) (fun _ => true) (Or.inl ⟨rfl, rfl⟩))
        rw [hd4] at KT
        clear hq4 hd4 cl3 KO hL4
        go_wp2_with fail
        refine KT.out.mono ?_
        rintro e y5 hx
        unfold QPost at hx
        clear KT cl4
        cases hen : takeR 4 (fun _ => true) r4 with
        | error q =>
          rw [hen] at hx
          obtain ⟨rfl, hbel, hres⟩ := hx
          exact door_panic hres q.1 q.2 rfl rfl rfl (fun x' hx' => ReadPost.err HB.out HTK.out (readR_end HT2.out HN.out HV.out hen) (hbel.trans hx'))
        | ok v =>
        obtain ⟨s5, r5⟩ := v
        rw [hen] at hx
        obtain ⟨rfl, m5, hd5, hq5⟩ := hx
        have HE := hide (readR_rest HT2.out HN.out HV.out hen)
        have hgd := end_gd r4 HL4.out
        rw [show endR r4 = takeR 4 (fun _ => true) r4 from rfl, hen] at hgd
        have hL5 : Last5 (L.drop m5) := by rw [hd5]; exact hgd.2
        have KB := hide (blank_q hq5 hL5 hbig)
        have cl5 := hq5.res.cells1.1.1
        obtain ⟨f, hf⟩ : ∃ f, L.length = f + 1 := ⟨L.length - 1, by omega⟩
        have hlt5 : (L.drop m5).length ≤ f := by
          have e1 := take_less 4 (fun _ => true) r4 _ _ hen
          have e2 := name_less' HN.out
          have e3 := num_less _ _ _ HV.out
          have e4 := take_less 1 houseW _ _ _ HT2.out
          have e5 := congrArg List.length HD1.out
          rw [hd5]
          simp only [List.length_drop] at e5
          omega
        clear hgd hq5 hen
        go_wp2_with fail
        refine KB.out.mono ?_
        rintro e y6 ⟨rfl, m6, hd6, hq6⟩
        have HAT := hide (show readR L = RestAt f ⟨nm, ht, [], []⟩ ⟨[], []⟩ (L.drop m6) by rw [HE.out, hf, hd6, ← hd5]; rfl)
        have HL6 := hide (show Last5 (L.drop m6) by rw [hd6]; exact (blank_gd _ hL5).2)
        have HLN := hide (show (L.drop m6).length ≤ f by
          obtain ⟨p, hp⟩ := (blank_gd _ hL5).1
          have := congrArg List.length hp
          rw [List.length_append] at this
          rw [hd6]
          omega)
        have HQ6 := hide hq6
        clear KB cl5 hd6 hq6 hlt5 hd5 hL5 hf HE HT2 HN HV HD1 HD2 HD3 HQ1 HQ2 HQ3 HL1 HL2 HL3 HL4 HRD
        have g0 := fld0
        go_wp2_with fail
        go_loopw [41] (fun _ wr => ∃ (m f : Nat) (h1 : HouseP) (c1 : SheetP), Hid (Rq w b rb (.slice (some ⟨tb, 0, none⟩) L.length cap) L m h1 c1 wr) ∧ Hid (Last5 (L.drop m)) ∧ Hid ((L.drop m).length ≤ f) ∧ Hid (readR L = RestAt f h1 c1 (L.drop m))) (fun _ wr => L.length - numAt wr ⟨rb, 1, none⟩)
        case atStart => exact ⟨m6, f, _, _, HQ6, HL6, HLN, HAT⟩
        case round =>
          obtain ⟨m, f, h1, c1, hq, hl, hln, hat⟩ := hrel
          obtain ⟨t, r, htr, hg, hr, hml⟩ := hl.out.head
          have KN := hide (Gives.first (now_q hq.out hg))
          simp only [TokD.val] at KN
          have cl := fun z : After wr.heap.size wr => (hq.out.more z.below).res.cells1.1.1
          have cl0 := hq.out.res.cells1.1.1
          have HTR := hide htr
          clear htr hr hg
          by_cases hk : t.kind = 5
          · have hkb : (t.kind != 5) = false := by rw [hk]; rfl
            have HDN := hide (hat.out.trans (RestAt.done (by rw [HTR.out]; exact hk)))
            clear hk
            go_wp2_with (go_at_call 87; refine KN.out.mono ?_; rintro e w1 ⟨rfl, z, rfl⟩; have hz := hq.out.more z.below; have r0 := hz.res; have r1 := r0.setR (.pointer (some ⟨rb, 0, none⟩)); have r2 := r1.setL (.int .i64 0); have r3 := r2.setC (.int .i64 0); have HR4 := hide (r3.setE (.int .i64 0)); have HZ := hide hz; obtain ⟨f0, g0⟩ := r0.cells1; obtain ⟨f1, g1⟩ := r1.cells1; obtain ⟨f2, g2⟩ := r2.cells1; obtain ⟨f3, g3⟩ := r3.cells1; clear r0 r1 r2 r3 hz)
            have hlt := HZ.out.lt
            refine door_return HR4.out rfl rfl rfl (ReadPost.good HB.out HTK.out HDN.out ?_ hlt (by omega) ((((HZ.out.st.putAt (by omega) ?_ _ _).putAt (by omega) ?_ _ _).putAt (by omega) ?_ _ _).putAt (by omega) ?_ _ _))
            · exact (((HZ.out.bel.setCell (p := ⟨b, 0, none⟩) (Nat.le_refl _) _).setCell (p := ⟨b + 1, 0, none⟩) (by simp only; omega) _).setCell (p := ⟨b + 1, 1, none⟩) (by simp only; omega) _).setCell (p := ⟨b + 1 + 1, 0, none⟩) (by simp only; omega) _
            all_goals
              intro tb' cap' e
              injection e with e
              injection e with e
              injection e with e
              have := HTB.out
              omega
          · have hkb : (t.kind != 5) = true := by simpa using hk
            have hk5 : ¬ kindT (L.drop m) = 5 := by rw [HTR.out]; exact hk
            clear hk
            go_wp2_with (go_at_call 87; refine KN.out.mono ?_; rintro e w1 ⟨rfl, z, rfl⟩; have clz := cl z)
            refine (line_q (hq.out.more z.below) hl.out hbig HTS.out HC.out HB.out).mono ?_
            rintro e y hx
            cases hs : stmtR h1 c1 (L.drop m) with
            | error q =>
              rw [hs] at hx
              obtain ⟨rfl, hbel, hres⟩ := hx
              exact door_panic hres q.1 q.2 rfl rfl rfl (fun x' hx' => ReadPost.err HB.out HTK.out (hat.out.trans (RestAt.err hk5 hs)) (hbel.trans hx'))
            | ok v =>
              obtain ⟨a, r'⟩ := v
              rw [hs] at hx
              obtain ⟨rfl, m', hd', hq'⟩ := hx
              have hgd := stmt_gd h1 c1 _ hl.out
              rw [hs] at hgd
              have hl' : Last5 (L.drop m') := by rw [hd']; exact hgd.2
              have hls := stmt_less h1 c1 _ _ _ hs
              obtain ⟨f', rfl⟩ : ∃ f', f = f' + 1 := ⟨f - 1, by have := hln.out; omega⟩
              have HAT' := hide (hat.out.trans (RestAt.step hk5 hs))
              have KB := hide (blank_q hq' hl' hbig)
              have cl' := hq'.res.cells1.1.1
              have HBG := hide (blank_gd _ hl')
              have HD' := hide hd'
              clear hgd hq' hs hd' hk5 cl clz
              go_wp2_with fail
              refine KB.out.mono ?_
              rintro e y6 ⟨rfl, m6, hd6, hq6⟩
              have h6 := HBG.out
              rw [← hd6, HD'.out] at h6
              obtain ⟨⟨p, hp⟩, hl6⟩ := h6
              have e1 := congrArg List.length hp
              rw [List.length_append] at e1
              have hln' := hln.out
              have HQ6 := hide hq6
              have n1 := hq6.numAt
              have n0 := hq.out.numAt
              have HD6 := hide hd6
              clear hq6 hd6 KB cl'
              go_wp2_with fail
              refine ⟨⟨m6, f', a.1, a.2, HQ6, hide hl6, hide (by omega), hide (by rw [HAT'.out, HD6.out, HD'.out])⟩, ?_⟩
              rw [n1, n0]
              simp only [List.length_drop] at e1 hls
              omega
end Go.Proofs.YtnjbfhfjdhfdlaaGreatDoor
