/- ledger.Append, Encode. -/
import Derived.Test.YtemlaliackblkaaDoorLedDec
import Derived.Deep.DeepCutAuto
namespace Go.Proofs.YtemlaliackblkaaDoor
open Go.RowKit

theorem app_no {b : List UInt8} {x : LogD} {l : List LogD} {er : Int} (h : DecE b l er) (he : er ≠ 0) : AppE b x [] er := ⟨l, er, h, Or.inl ⟨he, rfl, rfl⟩⟩
theorem app_arg {b : List UInt8} {x : LogD} {l : List LogD} (h : DecE b l 0) (hl : logOk (l ++ [x]) = false) : AppE b x [] 1 := ⟨l, 0, h, Or.inr (Or.inl ⟨rfl, hl, rfl, rfl⟩)⟩
theorem app_ok {b : List UInt8} {x : LogD} {l : List LogD} (h : DecE b l 0) (hl : logOk (l ++ [x]) = true) : AppE b x (b ++ recE b x) 0 := ⟨l, 0, h, Or.inr (Or.inr ⟨rfl, hl, rfl, rfl⟩)⟩
theorem dec_short {b : List UInt8} {l : List LogD} (h : DecE b l 0) : b.length ≤ 1048576 := by
  rcases h with ⟨_, h, _⟩ | ⟨h, _⟩
  · cases h
  · exact h
set_option maxRecDepth 100000 in
set_option maxHeartbeats 8000000 in
theorem append_any (A : Option Addr) (cap : Nat) (hA : A = none → cap = 0) (b : List UInt8) (x : LogD) (hx : x.ok) (hr : x.rope.size ≤ 1000) (w : World) (ht : Tabs w) (B : Nat) (hB : B ≤ w.heap.size) (hs : SlAt w B 1 byteCells ⟨A, cap, b⟩) :
    Calls Tryd.prog 11 #[.slice A b.length cap, .agg #[.int .i64 x.day, .string x.rope, .int .i64 x.kind, .int .i64 x.runs]] w fun e w' => ∃ (v : Value) (out : List UInt8) (er : Int), e = .returned (.tuple #[v, .int .i64 er]) ∧ AppE b x out er ∧ BRes w v out w' := by
  obtain ⟨i0, hi, hz0, hz1, hz2⟩ := info_parts infoLog
  obtain ⟨i1, hi1, hy0, hy1, hy2⟩ := info_parts infoByte
  have HI := hide (And.intro hi (And.intro hz0 (And.intro hz1 hz2)))
  have HI1 := hide (And.intro hi1 (And.intro hy0 (And.intro hy1 hy2)))
  obtain ⟨W, hW, hWs, hWb, hWh⟩ := boxed w (.cells #[.int .i64 x.day, .string x.rope, .int .i64 x.kind, .int .i64 x.runs] 24)
  have hcV := fun y : After W.heap.size W => LogD.boxed hWh (by omega) y
  have HBD := hide fun (u : World) (hu : Below W.heap.size W u) => (hWb.trans (hu.mono (by omega)) : Below w.heap.size w u)
  have hsW := hs.to (hWb.mono hB) (show B ≤ W.heap.size by omega)
  have hlc : b.length ≤ cap := hs.1
  have hlm : cap ≤ 9223372036854775807 := hs.2.1
  have HS := hide hsW
  have HT := hide (ht.below hWb)
  have KD := hide (decode_any A cap b W (ht.below hWb) W.heap.size (Nat.le_refl _) hsW)
  have HW := hide hW
  have HX := hide (And.intro hx (And.intro hr hA))
  clear hs ht hi hz0 hz1 hz2 hi1 hy0 hy1 hy2 hW hWs hWb hWh hsW hx hA
  go_enter Tryd.func11, Tryd.ntmps11
  go_wp2_with fail
  rw [← HW.out]
  refine KD.out.mono ?_
  rintro e w1 ⟨u, L, er, rfl, hd, st⟩
  have HD := hide hd
  have hsm := hd.small
  by_cases he : er = 0
  · subst he
    have hbs := dec_short hd
    obtain ⟨Lv, Lcap, rfl, hsu⟩ := st.slAt logCells_len
    have hlog := log_short hsm
    have HST := hide st
    have hc1 := hcV ⟨w1, st.bel⟩
    simp only at hc1
    obtain ⟨lg, hlg⟩ : ∃ lg, lg = logOk (L ++ [x]) := ⟨_, rfl⟩
    have hall : ∀ y ∈ L ++ [x], y.ok := fun y hy => by
      rcases List.mem_append.1 hy with h | h
      · exact ok_of_log hsm y h
      · rw [List.mem_singleton.1 h]; exact HX.out.1
    have KV := hide (fun (u u0 : World) (v4 : Value) (hst : OwnSt 24 4 LogD.cells u0 v4 (L ++ [x]) u) => (show Calls Tryd.prog 26 #[v4] u (Gives u (.bool lg)) from by
      obtain ⟨A5, cap5, rfl, hs5⟩ := hst.slAt logCells_len
      rw [hlg]
      exact validL_any A5 cap5 (L ++ [x]) hall u u.heap.size (Nat.le_refl _) hs5))
    have HLG := hide hlg
    clear st hsu hd hall hlg hsm
    go_wp2_with (at_builtin; refine wpList_append_own _ rfl _ _ 34 rfl W.heap.size 24 i0 _ 4 40 Tryd.underlying34 HI.out.1 HI.out.2.1 HI.out.2.2.1 HI.out.2.2.2 rfl (by decide) _ _ _ rfl (HST.out.own.alloc _) ⟨w1.heap.size, 0, none⟩ 1 1 x.cells rfl rfl (World.news_of_block (cs := #[.int .i64 x.day, .string x.rope, .int .i64 x.kind, .int .i64 x.runs]) (t := 24) (fr := (0, 0)) (heap_alloc_new w1 _)) (fun u hu => log_one [x] u (by simpa using hu)) (by unfold maxLen; omega) (by omega) (by have := HST.out.bel.size; simp; omega) ?_)
    intro v4 w4 hown4 hgr4 _
    have HST4 := hide (OwnSt.append (ls := [x]) HST.out ((Below.refl _ _).alloc (Nat.le_refl _) _) (by simpa using hown4) hgr4)
    clear hown4 hgr4
    go_wp2_with fail
    refine (KV.out _ _ _ HST4.out).mono ?_
    rintro e w5 ⟨rfl, hb5⟩
    have HB5 := hide (HST4.out.bel.trans (hb5.mono HST4.out.bel.size) : Below W.heap.size W w5)
    clear hb5 hc1
    cases lg
    · have HF := hide (app_arg (x := x) HD.out HLG.out.symm)
      go_wp2
      go_ret2
      exact ⟨_, _, _, rfl, HF.out, BRes.nil (HBD.out _ HB5.out)⟩
    · have HF := hide (app_ok (x := x) HD.out HLG.out.symm)
      have HWB := hide (fun (u : World) (hu : Below w5.heap.size w5 u) => (HB5.out.trans (hu.mono HB5.out.size) : Below W.heap.size W u))
      have hsu := fun (u : World) (hu : Below w5.heap.size w5 u) => (HS.out.to (HWB.out u hu) (HWB.out u hu).size : SlAt u u.heap.size 1 byteCells ⟨A, cap, b⟩)
      obtain ⟨Rr, hRr⟩ : ∃ Rr, Rr = recE b x := ⟨_, rfl⟩
      have hrl : Rr.length ≤ 1089 := by have := recE_length b x HX.out.1; have := HX.out.2.1; rw [hRr]; omega
      have KC := hide (fun (u : World) (hu : Below w5.heap.size w5 u) => (cloneB_any A cap b (by omega) u u.heap.size (hsu u hu)).mono (R' := fun e w2 => ∃ v2, e = .returned v2 ∧ Hid (OwnSt 5 1 byteCells w5 v2 b w2)) fun e w2 ⟨v2, h1, h2⟩ => ⟨v2, h1, hide (h2.from hu)⟩)
      have KR := hide (fun (u : World) (hu : Below w5.heap.size w5 u) => (record_any A cap b HX.out.2.2 (by omega) x HX.out.1 HX.out.2.1 u (HT.out.below (HWB.out u hu)) u.heap.size (Nat.le_refl _) (hsu u hu)).mono (R' := fun e w2 => ∃ A1 cap1, e = .returned (.slice (some A1) (recE b x).length cap1) ∧ Hid (SlAt w2 w2.heap.size 1 byteCells ⟨some A1, cap1, recE b x⟩) ∧ Below u.heap.size u w2) fun e w2 ⟨A1, cap1, h1, h2, h3⟩ => ⟨A1, cap1, h1, hide h2, h3⟩)
      rw [← hRr] at KR HF
      have hrp : 0 < Rr.length := by rw [hRr]; exact rec_pos b x
      have hcW := fun (u : World) (hu : Below w5.heap.size w5 u) => hcV ⟨u, HWB.out u hu⟩
      simp only at hcW
      clear hRr hsu hcV
      go_upto_region 6 with fail
      go_region_held3 (fun w' => w'.cell? ⟨w.heap.size, 0, none⟩ = some (.int .i64 x.day) ∧ w'.cell? ⟨w.heap.size, 0 + 1, none⟩ = some (.string x.rope) ∧ w'.cell? ⟨w.heap.size, 0 + 2, none⟩ = some (.int .i64 x.kind) ∧ w'.cell? ⟨w.heap.size, 0 + 3, none⟩ = some (.int .i64 x.runs))
        (first | exact hcW _ (Below.refl _ _).drew | exact hcW _ hst2.out.bel | exact hcW _ (hst2.out.more hb1).bel | exact hcW _ hst6.bel)
        (first
          | (go_at_call 29; refine (KC.out _ (by first | exact (Below.refl _ _).drew | exact Below.refl _ _)).mono ?_; rintro e wc ⟨v2, rfl, hst2⟩)
          | (go_at_call 31; refine (KR.out _ hst2.out.bel).mono ?_; rintro e wd ⟨A1, cap1, rfl, hs1, hb1⟩)
          | (refine step_append_lies _ (by rfl) (.tmp 25) (.tmp 28) 22 (by rfl) w5.heap.size 5 i1 (.int .u8 0) 1 1 Tryd.underlying22 HI1.out.1 HI1.out.2.1 HI1.out.2.2.1 HI1.out.2.2.2 rfl (by omega) v2 b.length (b.flatMap byteCells) (by rfl) (hst2.out.more hb1).own A1 Rr.length cap1 (Rr.flatMap byteCells) (by rfl) (by rw [flat_len byteCells_len]) (slAt_flat byteCells_len hs1.out) (byte_one Rr) hrp (by unfold maxLen; omega) (by omega) (hst2.out.more hb1).bel.size _ rfl ?_; intro g6 cap6 w6 hown6 hgr6 hg6 hlt6; have hst6 := OwnSt.append (ls := Rr) (hst2.out.more hb1) (Below.refl _ _) hown6 hgr6))
      go_wp2
      go_ret2
      exact ⟨_, _, _, rfl, HF.out, (BRes.of_own hst6).from (HBD.out _ HB5.out)⟩
  · have hne : (er != 0) = true := by simpa using he
    have HF := hide (app_no (x := x) hd he)
    have HB := hide st.bel
    clear st hd hsm he
    go_wp2
    go_ret2
    exact ⟨_, _, _, rfl, HF.out, BRes.nil (HBD.out _ HB.out)⟩
theorem rec_short (pre : List UInt8) {x : LogD} (hx : Small x) : (recE pre x).length ≤ 109 := by
  have h := recE_length pre x (ok_of_small hx)
  have h4 := hx.name
  simp only [isName, isNameL, Bool.and_eq_true, decide_eq_true_eq] at h4
  have := h4.1.1.2
  rw [bs_length] at this
  omega
theorem enc_short {l : List LogD} (h : logOk l = true) : ∀ k, (encE (l.take k)).length ≤ k * 109
  | 0 => by simp [encE]
  | k + 1 => by
    rcases Nat.lt_or_ge k l.length with hk | hk
    · rw [encE_take_next hk, List.length_append]
      have h1 := enc_short h k
      have h2 := rec_short (encE (l.take k)) (small_of_log h l[k] (List.getElem_mem hk))
      omega
    · rw [List.take_of_length_le (by omega)]
      have h1 := enc_short h k
      rw [List.take_of_length_le hk] at h1
      omega
theorem name_short {x : LogD} (hx : Small x) : x.rope.size ≤ 20 := by
  have h4 := hx.name
  simp only [isName, isNameL, Bool.and_eq_true, decide_eq_true_eq] at h4
  have := h4.1.1.2
  rwa [bs_length] at this
set_option maxRecDepth 100000 in
set_option maxHeartbeats 8000000 in
theorem encode_bad (A : Option Addr) (cap : Nat) (l : List LogD) (hok : ∀ x ∈ l, x.ok) (hv : logOk l = false) (w : World) (B : Nat) (hB : B ≤ w.heap.size) (hs : SlAt w B 4 LogD.cells ⟨A, cap, l⟩) :
    Calls Tryd.prog 15 #[.slice A l.length cap] w (Gives w (.tuple #[.slice none 0 0, .int .i64 1])) := by
  have KV := Gives.first (validL_any A cap l hok w B hB hs)
  rw [hv] at KV
  have KV := hide KV
  clear hs hok
  go_enter Tryd.func15, Tryd.ntmps15
  go_wp2_with fail
  refine KV.out.mono ?_
  rintro e w1 ⟨rfl, y, rfl⟩
  go_wp2
  go_ret2
  exact Gives.mk rfl y.below
set_option maxRecDepth 100000 in
set_option maxHeartbeats 8000000 in
theorem encode_any (A : Option Addr) (cap : Nat) (l : List LogD) (hv : logOk l = true) (w : World) (ht : Tabs w) (B : Nat) (hB : B ≤ w.heap.size) (hs : SlAt w B 4 LogD.cells ⟨A, cap, l⟩) :
    Calls Tryd.prog 15 #[.slice A l.length cap] w fun e w' => ∃ v, e = .returned (.tuple #[v, .int .i64 0]) ∧ BRes w v (encE l) w' := by
  obtain ⟨i1, hi1, hy0, hy1, hy2⟩ := info_parts infoByte
  have HI1 := hide (And.intro hi1 (And.intro hy0 (And.intro hy1 hy2)))
  have KV := Gives.first (validL_any A cap l (ok_of_log hv) w B hB hs)
  rw [hv] at KV
  have KV := hide KV
  have hlc : l.length ≤ cap := hs.1
  have hlm : cap ≤ 9223372036854775807 := hs.2.1
  have hl1000 := log_short hv
  have HS := hide hs
  have HT := hide ht
  have HV := hide hv
  clear hs ht hi1 hy0 hy1 hy2 hv
  go_enter Tryd.func15, Tryd.ntmps15
  go_wp2_with fail
  refine KV.out.mono ?_
  rintro e w1 ⟨rfl, y0, rfl⟩
  have HB0 := hide y0.below
  go_wp2
  go_loopw [4, 12] (fun u v wr => ∃ k : Nat, v = .int .i64 k ∧ k ≤ l.length ∧ Hid (OwnSt 5 1 byteCells w u (encE (l.take k)) wr)) (fun _ v _ => l.length - (intOf v).toNat)
  case atStart => exact ⟨0, rfl, Nat.zero_le _, hide (OwnSt.start _ _ _ HB0.out)⟩
  case round =>
    obtain ⟨k, rfl, hk, HST⟩ := hrel
    by_cases hlt : k < l.length
    · obtain ⟨b, off, hA, hbB, hcell⟩ := HS.out.2.2 (show 0 < l.length by omega)
      simp only at hA
      subst hA
      have hx : l[k]? = some l[k] := List.getElem?_eq_getElem hlt
      have he := LogD.elem hx (show b < w.heap.size by omega) hcell ⟨wr, HST.out.bel⟩
      simp only at he
      have HNX := hide (encE_next hx)
      have hsm := small_of_log HV.out l[k] (List.getElem_mem hlt)
      have hlen := enc_short HV.out k
      have hok := ok_of_small hsm
      have hns := name_short hsm
      obtain ⟨x, hxx⟩ : ∃ x, x = l[k] := ⟨_, rfl⟩
      rw [← hxx] at he HNX hok hns hsm
      obtain ⟨V, hV, hVs, hVb, hVh⟩ := boxed wr (.cells #[.int .i64 x.day, .string x.rope, .int .i64 x.kind, .int .i64 x.runs] 24)
      obtain ⟨out, hout⟩ : ∃ out, out = encE (l.take k) := ⟨_, rfl⟩
      rw [← hout] at hlen HST HNX
      obtain ⟨A1, cap1, rfl, hA1, hs1⟩ := (HST.out.more hVb).slAt2 byteCells_len
      have HSV := hide (HST.out.more hVb)
      have hrl := rec_short out hsm
      have hrp := rec_pos out x
      have KR := hide ((record_any A1 cap1 out hA1 (by omega) x hok (by omega) V (HT.out.below HSV.out.bel) V.heap.size (Nat.le_refl _) hs1).mono (R' := fun e w2 => ∃ A2 cap2, e = .returned (.slice (some A2) (recE out x).length cap2) ∧ Hid (SlAt w2 w2.heap.size 1 byteCells ⟨some A2, cap2, recE out x⟩) ∧ Below V.heap.size V w2) fun e w2 ⟨A2, cap2, h1, h2, h3⟩ => ⟨A2, cap2, h1, hide h2, h3⟩)
      obtain ⟨Rr, hRr⟩ : ∃ Rr, Rr = recE out x := ⟨_, rfl⟩
      rw [← hRr] at KR hrl hrp HNX
      have HVE := hide hV
      have hcV := fun y : After V.heap.size V => LogD.boxed hVh (by omega) y
      have hcv0 := hcV (After.refl _ _)
      simp only [After.refl] at hcv0
      clear hcell hx hxx hV hVs hVb hVh hRr hs1 hsm hok hout hcV
      go_wp2_with fail
      rw [← HVE.out]
      refine KR.out.mono ?_
      rintro e w2 ⟨A2, cap2, rfl, hs2, hb2⟩
      have HS2 := hide (HSV.out.more hb2)
      go_wp2_with (at_builtin; refine wpList_append_own _ rfl _ _ 22 rfl w.heap.size 5 i1 (.int .u8 0) 1 1 Tryd.underlying22 HI1.out.1 HI1.out.2.1 HI1.out.2.2.1 HI1.out.2.2.2 rfl (by decide) _ _ _ rfl HS2.out.own A2 Rr.length cap2 (Rr.flatMap byteCells) rfl (by rw [flat_len byteCells_len]) (slAt_flat byteCells_len hs2.out) (byte_one Rr) (by unfold maxLen; omega) (by omega) HS2.out.bel.size ?_)
      intro v6 w6 hown6 hgr6 _
      have HN6 := hide (OwnSt.append (ls := Rr) HS2.out (Below.refl _ _) hown6 hgr6)
      rw [← HNX.out] at HN6
      clear hown6 hgr6
      go_wp2
      exact ⟨⟨k + 1, by go_num, by omega, HN6⟩, by simp [intOf]; omega⟩
    · have hkl : k = l.length := by omega
      subst hkl
      rw [List.take_length] at HST
      go_wp2
      go_ret2
      exact ⟨_, rfl, BRes.of_own HST.out⟩
end Go.Proofs.YtemlaliackblkaaDoor
