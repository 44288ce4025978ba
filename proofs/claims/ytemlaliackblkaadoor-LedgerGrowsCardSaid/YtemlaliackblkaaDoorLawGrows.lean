/- loftblocklaw48.LedgerGrows: the walk of the law. -/
import Derived.Test.YtemlaliackblkaaDoorLedAwake
import Derived.Deep.DeepCutAuto
namespace Go.Proofs.YtemlaliackblkaaDoor
open Go.RowKit

theorem prefix_app (a b : List UInt8) : Lib.hasPrefix (a ++ b) a = true := by
  simp [Lib.hasPrefix]
theorem app_enc {l : List LogD} {x : LogD} {out : List UInt8} {er : Int} (hl : logOk l = true) (h : AppE (encE l) x out er) : out = (if logOk (l ++ [x]) then encE (l ++ [x]) else []) ∧ er = if logOk (l ++ [x]) then 0 else 1 :=
  h.same (AppE.enc hl (by have := enc_short hl l.length; rw [List.take_length] at this; have := log_short hl; omega))
set_option maxRecDepth 100000 in
set_option maxHeartbeats 16000000 in
theorem ledgerGrows_any (a : Sl LogD) (hok : ∀ x ∈ a.l, x.ok) (x : LogD) (hx : x.ok) (w : World) (ht : Tabs w) (B : Nat) (hB : B ≤ w.heap.size) (hs : SlAt w B 4 LogD.cells a) :
    Calls Tryd.prog 6 #[.slice a.A a.l.length a.cap, .agg #[.int .i64 x.day, .string x.rope, .int .i64 x.kind, .int .i64 x.runs]] w (Gives w (.bool true)) := by
  obtain ⟨A, cap, l⟩ := a
  simp only at *
  have hlc : l.length ≤ cap := hs.1
  have hlm : cap ≤ 9223372036854775807 := hs.2.1
  obtain ⟨i0, hi, hz0, hz1, hz2⟩ := info_parts infoLog
  have HI := hide (And.intro hi (And.intro hz0 (And.intro hz1 hz2)))
  obtain ⟨V, hV, hVs, hVb, hVh⟩ := boxed w (.cells #[.int .i64 x.day, .string x.rope, .int .i64 x.kind, .int .i64 x.runs] 24)
  have hc := fun y : After V.heap.size V => LogD.boxed hVh (by omega) y
  have HBD := hide fun (y : After V.heap.size V) => (hVb.trans (y.below.mono (by omega)) : Below w.heap.size w y.val)
  have hsV := hs.to (hVb.mono hB) (show B ≤ V.heap.size by omega)
  have htV := ht.below hVb
  have KA := hide (Gives.first (awake48 V htV))
  have hsl := fun y : After V.heap.size V => (hsV.to y.below y.size)
  have HSL := hide hsl
  have HSV := hide hsV
  have HT := hide (fun y : After V.heap.size V => htV.below y.below)
  have KL := hide (fun y : After V.heap.size V => long_any A cap l y.val y.val.heap.size (Nat.le_refl _) (hsl y))
  have KV0 := fun y : After V.heap.size V => Gives.after (x := y) (Nat.le_refl _) (validL_any A cap l hok y.val y.val.heap.size (Nat.le_refl _) (hsl y))
  obtain ⟨lg, hlg⟩ : ∃ lg, lg = logOk l := ⟨_, rfl⟩
  rw [← hlg] at KV0
  have KV := hide KV0
  have HLG := hide hlg
  have HV := hide hV
  have HX := hide hx
  clear hs ht hok hsl hlg KV0 hV hVs hVb hVh hsV htV hi hz0 hz1 hz2 hx
  go_enter Tryd.func6, Tryd.ntmps6
  go_wp2_with fail
  rw [← HV.out]
  refine KA.out.mono ?_
  rintro e w1 ⟨rfl, y, rfl⟩
  go_wp2_with fail
  refine (KL.out y).mono ?_
  rintro e w1 ⟨lv, rfl, hb⟩
  obtain ⟨y, rfl⟩ := After.exists_iff (y.below.trans (hb.mono y.size))
  clear hb
  cases lv
  · rcases (show 20 < (l.length : Int) ∨ (l.length : Int) ≤ 20 by omega) with h20 | h20
    · go_wp2
      go_ret
      exact Gives.mk rfl (HBD.out y)
    · rcases (show 60 < (x.rope.size : Int) ∨ (x.rope.size : Int) ≤ 60 by omega) with hr | hr
      · go_wp2
        go_ret
        exact Gives.mk rfl (HBD.out y)
      · cases lg
        · go_wp2_with fail
          refine (KV.out y).mono ?_
          rintro e w1 ⟨rfl, y, rfl⟩
          go_wp2
          go_ret
          exact Gives.mk rfl (HBD.out y)
        · have HVL := hide HLG.out.symm
          go_wp2_with fail
          refine (KV.out y).mono ?_
          rintro e w1 ⟨rfl, y, rfl⟩
          have HB0 := hide (show BRes V (.slice (some ⟨y.val.heap.size, 0, none⟩) 0 0) (encE (l.take 0)) (y.val.alloc (.cells #[] 5)) from
            ⟨some ⟨y.val.heap.size, 0, none⟩, 0, rfl, (fun h => by cases h), ⟨Nat.le_refl _, Nat.zero_le _, fun h => absurd h (by simp [encE])⟩, y.below.alloc y.size _⟩)
          go_wp2_with fail
          go_loopw [5, 40] (fun u v wr => ∃ k : Nat, v = .int .i64 k ∧ k ≤ l.length ∧ Hid (BRes V u (encE (l.take k)) wr)) (fun _ v _ => l.length - (intOf v).toNat)
          case atStart => exact ⟨0, rfl, Nat.zero_le _, HB0⟩
          case round =>
            obtain ⟨k, rfl, hk, hst⟩ := hrel
            obtain ⟨Ab, cb, rfl, hAb, hsb, hbb⟩ := hst.out
            by_cases hlt : k < l.length
            · obtain ⟨g, off, hA, hgB, hcell⟩ := HSV.out.2.2 (show 0 < l.length by omega)
              simp only at hA
              subst hA
              have hlk : l[k]? = some l[k] := List.getElem?_eq_getElem hlt
              have he := LogD.elem hlk hgB hcell ⟨wr, hbb⟩
              simp only at he
              obtain ⟨U, hU, hUs, hUb, hUh⟩ := boxed wr (.cells #[.int .i64 l[k].day, .string l[k].rope, .int .i64 l[k].kind, .int .i64 l[k].runs] 24)
              have hcU := fun z : After U.heap.size U => LogD.boxed hUh (by omega) z
              have hVU : Below V.heap.size V U := hbb.trans (hUb.mono hbb.size)
              have hv1 := logOk_take' HVL.out k
              have hv2 := logOk_take' HVL.out (k + 1)
              have hsn : l.take (k + 1) = l.take k ++ [l[k]] := take_snoc hlk
              have hsm := small_of_log HVL.out l[k] (List.getElem_mem hlt)
              have hns := name_short hsm
              have KP := hide (append_any Ab cb hAb (encE (l.take k)) l[k] (ok_of_small hsm) (by omega) U (HT.out ⟨U, hVU⟩) wr.heap.size (by omega) (hsb.below hUb))
              have KE := hide (fun z : After U.heap.size U => (show Calls Tryd.prog 15 #[.slice (some ⟨g, off, none⟩) (k + 1) cap] z.val fun e w' => ∃ v, e = .returned (.tuple #[v, .int .i64 0]) ∧ BRes z.val v (encE (l.take (k + 1))) w' from by
                have h := encode_any (some ⟨g, off, none⟩) cap (l.take (k + 1)) hv2 z.val (HT.out ⟨z.val, hVU.trans (z.below.mono hVU.size)⟩) z.val.heap.size (Nat.le_refl _) ((HSL.out ⟨z.val, hVU.trans (z.below.mono hVU.size)⟩).take (k + 1))
                rw [show (l.take (k + 1)).length = k + 1 by rw [List.length_take]; omega] at h
                exact h))
              have HAE := hide (fun (out : List UInt8) (er : Int) (h : AppE (encE (l.take k)) l[k] out er) => (show out = encE (l.take (k + 1)) ∧ er = 0 from by
                have h2 := app_enc hv1 h
                rw [← hsn, hv2] at h2
                exact h2))
              have HPF := hide (show Lib.hasPrefix (encE (l.take (k + 1))) (encE (l.take k)) = true from by rw [hsn, encE_snoc]; exact prefix_app _ _)
              have HSB := hide (hsb.below hUb)
              obtain ⟨y1, hy1⟩ : ∃ y1, y1 = l[k] := ⟨_, rfl⟩
              obtain ⟨bk, hbk⟩ : ∃ bk, bk = encE (l.take k) := ⟨_, rfl⟩
              obtain ⟨bn, hbn⟩ : ∃ bn, bn = encE (l.take (k + 1)) := ⟨_, rfl⟩
              rw [← hy1] at he hcU KP HAE hU
              rw [← hbk] at KP HAE HPF HSB ⊢
              rw [← hbn] at KE HAE HPF
              have HUE := hide hU
              have HVU := hide hVU
              have HWU := hide hUb.size
              have HBN := hide hbn
              have hto := fun W : World => slice_to (P := Tryd.prog) W 34 24 4 Tryd.underlying34 Tryd.sizeOf24 (some ⟨g, off, none⟩) l.length cap (k + 1) (by omega)
              push_cast at hto
              have hcu0 := hcU (After.refl _ _)
              simp only [After.refl] at hcu0
              clear hcell hlk hU hUs hUb hUh hVU hv1 hv2 hsn hsm hns hsb hst hbb hy1 hbk hbn hc
              go_wp2_with fail
              rw [← HUE.out]
              refine KP.out.mono ?_
              rintro e w2 ⟨v2, o2, e2, rfl, ha, A2, c2, rfl, hn2, hs2, hb2⟩
              obtain ⟨rfl, rfl⟩ := HAE.out o2 e2 ha
              obtain ⟨z, rfl⟩ := After.exists_iff hb2
              have HS2 := hide hs2
              clear ha hs2 hb2
              go_wp2_with fail
              refine (KE.out z).mono ?_
              rintro e w3 ⟨v3, rfl, A3, c3, rfl, hn3, hs3, hb3⟩
              have KQ0 := equalBytes_any (HS2.out.below hb3) hs3
              rw [show (o2 == o2) = true by simp] at KQ0
              have KQ := hide (Gives.first KQ0)
              have hU3 : Below U.heap.size U w3 := z.below.trans (hb3.mono z.size)
              have KH0 := fun q : After w3.heap.size w3 => Gives.after (x := q) (Nat.le_refl _) (hasPrefix_any (HS2.out.below (hb3.trans (q.below.mono hb3.size))) (HSB.out.below ((hU3.trans (q.below.mono hU3.size)).mono HWU.out)))
              rw [HPF.out] at KH0
              have KH := hide KH0
              have HFIN := hide (fun q : After w3.heap.size w3 => (show BRes V (.slice A2 o2.length c2) (encE (l.take (k + 1))) q.val from by
                rw [← HBN.out]
                have hzq : Below z.val.heap.size z.val q.val := hb3.trans (q.below.mono hb3.size)
                exact ⟨A2, c2, rfl, hn2, HS2.out.to hzq hzq.size, HVU.out.trans ((z.below.trans (hzq.mono z.size)).mono HVU.out.size)⟩))
              clear KQ0 KH0 hs3 hb3 hU3 KE KP HAE
              go_wp2_with fail
              refine KQ.out.mono ?_
              rintro e w4 ⟨rfl, q, rfl⟩
              go_wp2_with fail
              refine (KH.out q).mono ?_
              rintro e w5 ⟨rfl, q, rfl⟩
              go_wp2
              exact ⟨⟨k + 1, by go_num, by omega, hide (HFIN.out q)⟩, by simp [intOf]; omega⟩
            · have hkl : k = l.length := by omega
              rw [hkl, List.take_length] at hsb hst ⊢
              obtain ⟨yr, hyr⟩ := After.exists_iff hbb
              subst hyr
              obtain ⟨bl, hbl⟩ : ∃ bl, bl = encE l := ⟨_, rfl⟩
              have HAE := hide (fun (out : List UInt8) (er : Int) (h : AppE bl x out er) => (app_enc HVL.out (by rw [← hbl]; exact h)))
              rw [← hbl] at hsb ⊢
              have HSB := hide hsb
              have hlog := log_short HVL.out
              have KCL := hide (fun (u : World) (hu : Below yr.val.heap.size yr.val u) => (cloneL_any A cap l (by omega) u u.heap.size (HSL.out ⟨u, yr.below.trans (hu.mono yr.size)⟩)).mono (R' := fun e w2 => ∃ v2, e = .returned v2 ∧ Hid (OwnSt 24 4 LogD.cells u v2 l w2) ∧ Below yr.val.heap.size yr.val w2) fun e w2 ⟨v2, h1, h2⟩ => ⟨v2, h1, hide h2, hu.trans (h2.bel.mono hu.size)⟩)
              have hcY := fun (u : World) (hu : Below yr.val.heap.size yr.val u) => hc ⟨u, yr.below.trans (hu.mono yr.size)⟩
              simp only at hcY
              have hcx := hc yr
              have hlt2 : ¬ (l.length : Int) < (l.length : Int) := by omega
              clear hst hsb hbl KV KL KA hbb
              go_upto_region 15 with fail
              go_cut [12] (fun u wx => Hid (OwnSt 24 4 LogD.cells yr.val u (l ++ [x]) wx))
              case first =>
                go_region_held3 (fun w' => w'.cell? ⟨w.heap.size, 0, none⟩ = some (.int .i64 x.day) ∧ w'.cell? ⟨w.heap.size, 0 + 1, none⟩ = some (.string x.rope) ∧ w'.cell? ⟨w.heap.size, 0 + 2, none⟩ = some (.int .i64 x.kind) ∧ w'.cell? ⟨w.heap.size, 0 + 3, none⟩ = some (.int .i64 x.runs))
                  (first | exact hcY _ (Below.refl _ _).drew | exact hcY _ ((Below.refl _ _).alloc (Nat.le_refl _) _).drew | exact hcY _ hbc | exact hcY _ (hbc.alloc hbc.size _) | exact hcY _ hb4)
                  (first
                    | (go_at_call 28; refine (KCL.out _ (by first | exact (Below.refl _ _).drew | exact ((Below.refl _ _).alloc (Nat.le_refl _) _).drew)).mono ?_; rintro e wc ⟨v2, rfl, hst2, hbc⟩)
                    | (refine step_append_lies _ (by rfl) (.tmp 80) (.tmp 82) 34 (by rfl) _ 24 i0 _ 4 40 Tryd.underlying34 HI.out.1 HI.out.2.1 HI.out.2.2.1 HI.out.2.2.2 rfl (by omega) v2 l.length (l.flatMap LogD.cells) (by rfl) (hst2.out.own.alloc _) ⟨wc.heap.size, 0, none⟩ 1 1 x.cells (by rfl) rfl (World.news_of_block (cs := #[.int .i64 x.day, .string x.rope, .int .i64 x.kind, .int .i64 x.runs]) (t := 24) (fr := (0, 0)) (heap_alloc_new wc _)) (fun u hu => log_one [x] u (by simpa using hu)) (by omega) (by unfold maxLen; omega) (by omega) (by have := hst2.out.bel.size; simp at this ⊢; omega) (wc.heap.size + 1) (by simp) ?_; intro g4 cap4 w4 hown4 hgr4 hg4 hlt4; have hst4 := (OwnSt.append (ls := [x]) hst2.out ((Below.refl _ _).alloc (Nat.le_refl _) _) (by simpa using hown4) hgr4).from (Below.refl yr.val.heap.size yr.val).drew; have hb4 := hst4.bel)
                    | (refine step_append_lies _ (by rfl) (.tmp 80) (.tmp 82) 34 (by rfl) _ 24 i0 _ 4 40 Tryd.underlying34 HI.out.1 HI.out.2.1 HI.out.2.2.1 HI.out.2.2.2 rfl (by omega) v2 l.length (l.flatMap LogD.cells) (by rfl) hst2.out.own ⟨yr.val.heap.size, 0, none⟩ 1 1 x.cells (by rfl) rfl (World.news_of_block (cs := #[.int .i64 x.day, .string x.rope, .int .i64 x.kind, .int .i64 x.runs]) (t := 24) (fr := (0, 0)) ((hst2.out.bel.block _ (by simp)).trans (heap_alloc_new yr.val _))) (fun u hu => log_one [x] u (by simpa using hu)) (by omega) (by unfold maxLen; omega) (by omega) hst2.out.bel.size wc.heap.size rfl ?_; intro g4 cap4 w4 hown4 hgr4 hg4 hlt4; have hst4 := (OwnSt.append (ls := [x]) hst2.out (Below.refl _ _) (by simpa using hown4) hgr4).from ((Below.refl yr.val.heap.size yr.val).alloc (Nat.le_refl _) _).drew; have hb4 := hst4.bel)
                    | fail)
                all_goals
                  go_wp2_with fail
                  go_meet
                  exact hide hst4
              case rest =>
                have hwc : Below V.heap.size V wc := yr.below.trans (hcut.out.bel.mono yr.size)
                have hcw := hc ⟨wc, hwc⟩
                simp only at hcw
                have KAP := hide (append_any Ab cb hAb bl x HX.out (by omega) wc (HT.out ⟨wc, hwc⟩) yr.val.heap.size hcut.out.bel.size (HSB.out.below hcut.out.bel))
                have hall : ∀ y ∈ l ++ [x], y.ok := fun y hy => by
                  rcases List.mem_append.1 hy with h | h
                  · exact ok_of_log HVL.out y h
                  · rw [List.mem_singleton.1 h]; exact HX.out
                obtain ⟨Am, cm, e12, hsm⟩ := hcut.out.slAt logCells_len
                obtain ⟨Ml, hMl⟩ : ∃ Ml, Ml = l ++ [x] := ⟨_, rfl⟩
                rw [← hMl] at hsm e12 hall HAE
                subst e12
                have hsm' := fun z : After wc.heap.size wc => (hsm.to z.below z.size : SlAt z.val z.val.heap.size 4 LogD.cells ⟨Am, cm, Ml⟩)
                obtain ⟨lm, hlm2⟩ : ∃ lm, lm = logOk Ml := ⟨_, rfl⟩
                have KVM0 := fun z : After wc.heap.size wc => (validL_any Am cm Ml hall z.val z.val.heap.size (Nat.le_refl _) (hsm' z))
                rw [← hlm2] at KVM0 HAE
                have KVM := hide KVM0
                have KEM := hide (fun (h : logOk Ml = true) (z : After wc.heap.size wc) => encode_any Am cm Ml h z.val (HT.out ⟨z.val, hwc.trans (z.below.mono hwc.size)⟩) z.val.heap.size (Nat.le_refl _) (hsm' z))
                have HLM := hide hlm2
                have hwz : ∀ z : After wc.heap.size wc, Below w.heap.size w z.val := fun z => HBD.out ⟨z.val, hwc.trans (z.below.mono hwc.size)⟩
                have HWZ := hide hwz
                clear hcut hall hsm hsm' hlm2 KVM0 hMl KCL hcY hcx hwc hc hwz
                go_wp2_with fail
                refine KAP.out.mono ?_
                rintro e w2 ⟨v2, o2, e2, rfl, ha, A2, c2, rfl, hn2, hs2, hb2⟩
                obtain ⟨z, rfl⟩ := After.exists_iff hb2
                have HO := hide (HAE.out o2 e2 ha)
                have HS2 := hide hs2
                clear ha hs2 hb2
                go_wp2_with fail
                refine (KVM.out z).mono ?_
                rintro e w3 ⟨rfl, hb3⟩
                obtain ⟨z3, rfl⟩ := After.exists_iff (z.below.trans (hb3.mono z.size))
                cases lm
                · obtain rfl : o2 = [] := HO.out.1
                  obtain rfl : e2 = 1 := HO.out.2
                  clear hb3
                  go_wp2
                  go_ret
                  exact Gives.mk rfl (HWZ.out z3)
                · have ho2 : o2 = encE Ml := HO.out.1
                  obtain rfl : e2 = 0 := HO.out.2
                  have HS3 := hide (HS2.out.below hb3)
                  have HO2 := hide ho2
                  have HZ3 := hide hb3.size
                  clear hb3 ho2
                  go_wp2_with fail
                  refine (KEM.out HLM.out.symm z3).mono ?_
                  rintro e w4 ⟨v4, rfl, A4, c4, rfl, hn4, hs4, hb4⟩
                  obtain ⟨z4, rfl⟩ := After.exists_iff (z3.below.trans (hb4.mono z3.size))
                  have hz3 := HS3.out.below (hb4.mono HZ3.out)
                  have KQ0 := Gives.after (x := z4) (Nat.le_refl _) (equalBytes_any hz3 hs4)
                  rw [show (o2 == encE Ml) = true by rw [HO2.out]; simp] at KQ0
                  have KQ := hide KQ0
                  clear KQ0 hs4 hb4 hz3
                  go_wp2_with fail
                  refine KQ.out.mono ?_
                  rintro e w5 ⟨rfl, z5, rfl⟩
                  go_wp2
                  go_ret
                  exact Gives.mk rfl (HWZ.out z5)
  · go_wp2
    go_ret
    exact Gives.mk rfl (HBD.out y)
end Go.Proofs.YtemlaliackblkaaDoor
