/- The reference's Decode and Append. -/
import Derived.Test.YtemlaliackblkaaDoorLedRefGood
namespace Go.Proofs.YtemlaliackblkaaDoor
open Go.RowKit

set_option maxRecDepth 100000 in
set_option maxHeartbeats 4000000 in
theorem refDecode_any (A : Option Addr) (cap : Nat) (b : List UInt8) (w : World) (B : Nat) (hB : B ≤ w.heap.size) (hs : SlAt w B 1 byteCells ⟨A, cap, b⟩) :
    Calls Tryd.prog 19 #[.slice A b.length cap] w fun e w' => ∃ (v : Value) (l : List LogD) (er : Int), e = .returned (.tuple #[v, .int .i64 er]) ∧ DecE b l er ∧ OwnSt 24 4 LogD.cells w v l w' := by
  rcases Nat.lt_or_ge 1048576 b.length with hb | hb
  · have hbi : (1048576 : Int) < (b.length : Int) := by omega
    have HF := hide (dec_long hb)
    clear hs
    go_enter Tryd.func19, Tryd.ntmps19
    go_wp2
    go_returns
    exact ⟨_, _, _, rfl, HF.out, OwnSt.start _ _ _ (Below.refl _ _)⟩
  · have hbi : (b.length : Int) ≤ 1048576 := by omega
    have KG := hide (refGood_any A cap b hb w B hB hs)
    clear hs
    go_enter Tryd.func19, Tryd.ntmps19
    go_wp2_with fail
    refine KG.out.mono ?_
    rintro e w1 ⟨v, k, l, er, rfl, he, st⟩
    have HST := hide st
    have HE := hide he
    by_cases h0 : er = 0
    · have HF := hide (show DecE b l 0 by subst h0; exact Or.inr ⟨hb, _, _, he, by simp⟩)
      have hq : (er != 0) = false := by simp [h0]
      clear he st h0
      go_wp2
      go_ret2
      exact ⟨_, _, _, rfl, HF.out, HST.out⟩
    · have HF := hide (dec_bad hb he h0)
      have hq : (er != 0) = true := by simpa using h0
      clear he st h0
      go_wp2
      go_ret2
      exact ⟨_, _, _, rfl, HF.out, OwnSt.start _ _ _ HST.out.bel⟩
set_option maxRecDepth 100000 in
set_option maxHeartbeats 8000000 in
theorem refAppend_any (A : Option Addr) (cap : Nat) (hA : A = none → cap = 0) (b : List UInt8) (x : LogD) (hx : x.ok) (hr : x.rope.size ≤ 1000) (w : World) (B : Nat) (hB : B ≤ w.heap.size) (hs : SlAt w B 1 byteCells ⟨A, cap, b⟩) :
    Calls Tryd.prog 12 #[.slice A b.length cap, .agg #[.int .i64 x.day, .string x.rope, .int .i64 x.kind, .int .i64 x.runs]] w fun e w' => ∃ (v : Value) (out : List UInt8) (er : Int), e = .returned (.tuple #[v, .int .i64 er]) ∧ AppE b x out er ∧ BRes w v out w' := by
  obtain ⟨i0, hi, hz0, hz1, hz2⟩ := info_parts infoLog
  obtain ⟨i1, hi1, hy0, hy1, hy2⟩ := info_parts infoByte
  have HI := hide (And.intro hi (And.intro hz0 (And.intro hz1 hz2)))
  have HI1 := hide (And.intro hi1 (And.intro hy0 (And.intro hy1 hy2)))
  obtain ⟨V, hV, hVs, hVb, hVh⟩ := boxed w (.cells #[.int .i64 x.day, .string x.rope, .int .i64 x.kind, .int .i64 x.runs] 24)
  have hcV := fun y : After V.heap.size V => LogD.boxed hVh (by omega) y
  have HBD := hide fun (u : World) (hu : Below V.heap.size V u) => (hVb.trans (hu.mono (by omega)) : Below w.heap.size w u)
  have hsV := hs.to (hVb.mono hB) (show B ≤ V.heap.size by omega)
  have HS := hide hsV
  have KD := hide (refDecode_any A cap b V V.heap.size (Nat.le_refl _) hsV)
  have HV := hide hV
  have HX := hide (And.intro hx (And.intro hr hA))
  clear hs hi hz0 hz1 hz2 hi1 hy0 hy1 hy2 hV hVs hVb hVh hsV hx hA
  go_enter Tryd.func12, Tryd.ntmps12
  go_wp2_with fail
  rw [← HV.out]
  refine KD.out.mono ?_
  rintro e w1 ⟨u, L, er, rfl, hd, st⟩
  have HD := hide hd
  have hsm := hd.small
  by_cases he : er = 0
  · subst he
    have hbs := dec_short hd
    obtain ⟨Lv, Lcap, rfl, hLn, hsu⟩ := st.slAt2 logCells_len
    have hlog := log_short hsm
    have HST := hide st
    obtain ⟨y3, hy3⟩ := After.exists_iff st.bel
    subst hy3
    have HSU := hide (And.intro hLn hsu)
    have HSY := hide (fun (q : World) (hu : Below y3.val.heap.size y3.val q) => (⟨y3.val.heap.size, HSU.out.2.below hu⟩ : ∃ B, SlAt q B 4 LogD.cells ⟨Lv, Lcap, L⟩))
    obtain ⟨lg, hlg⟩ : ∃ lg, lg = logOk (L ++ [x]) := ⟨_, rfl⟩
    have hall : ∀ y ∈ L ++ [x], y.ok := fun y hy => by
      rcases List.mem_append.1 hy with h | h
      · exact ok_of_log hsm y h
      · rw [List.mem_singleton.1 h]; exact HX.out.1
    have HALL := hide hall
    have HLG := hide hlg
    clear st hsu hLn hall hlg
    have HO3 := hide (show ((y3.val.alloc (.cells #[.int .i64 x.day, .string x.rope, .int .i64 x.kind, .int .i64 x.runs] 24)).alloc (.cells #[] 24)).drew.ownsRow V.heap.size 24 4 (.slice (some ⟨y3.val.heap.size + 1, 0, none⟩) 0 0) 0 [] by
      have h := World.ownsRow_made (base := V.heap.size) (e := 24) (size := 4) (y3.val.alloc (.cells #[.int .i64 x.day, .string x.rope, .int .i64 x.kind, .int .i64 x.runs] 24)) #[] 0 (by have := y3.size; simp; omega) (Nat.zero_le _) rfl
      rw [show (y3.val.alloc (.cells #[.int .i64 x.day, .string x.rope, .int .i64 x.kind, .int .i64 x.runs] 24)).heap.size = y3.val.heap.size + 1 by simp] at h
      exact h.drew)
    go_upto_region 4 with fail
    go_cut [6] (fun u wx => Hid (OwnSt 24 4 LogD.cells V u (L ++ [x]) wx))
    case first =>
      go_region_held3 (fun w' => w'.cell? ⟨w.heap.size, 0, none⟩ = some (.int .i64 x.day) ∧ w'.cell? ⟨w.heap.size, 0 + 1, none⟩ = some (.string x.rope) ∧ w'.cell? ⟨w.heap.size, 0 + 2, none⟩ = some (.int .i64 x.kind) ∧ w'.cell? ⟨w.heap.size, 0 + 3, none⟩ = some (.int .i64 x.runs))
        (first | exact hcV ⟨_, y3.below.drew⟩ | exact hcV ⟨_, ((y3.below.alloc y3.size _).drew)⟩ | exact hcV ⟨_, (((y3.below.alloc y3.size _).alloc (by have := y3.size; simp; omega) _).drew)⟩ | exact hcV ⟨_, hst6.bel⟩ | exact hcV ⟨_, hst5.bel⟩ | exact hcV ⟨_, hst5.bel.alloc hst5.bel.size _⟩)
        (first
          | (refine step_sl (cells := LogD.cells) (size := 4) _ (by rfl) (.tmp 16) (.tmp 17) 34 (by rfl) V.heap.size 24 i0 _ 40 Tryd.underlying34 HI.out.1 HI.out.2.1 HI.out.2.2.1 HI.out.2.2.2 rfl (by omega) _ 0 [] (by rfl) ((World.ownsRow_made y3.val #[] 0 y3.size (Nat.zero_le _) rfl).drew) Lv Lcap L HSU.out.1 logCells_len (HSY.out _ (((Below.refl _ _).alloc (Nat.le_refl _) _).drew)) (by rfl) (log_one L) (by unfold maxLen; omega) (by omega) (by have := y3.size; simp; omega) ?_; intro v5 w5 hown5 hgr5; have hst5 := OwnSt.append (ls := L) (show OwnSt 24 4 LogD.cells V _ [] _ from ⟨(World.ownsRow_made y3.val #[] 0 y3.size (Nat.zero_le _) rfl).drew, ((y3.below.alloc y3.size _).drew)⟩) (Below.refl _ _) hown5 hgr5; rw [List.nil_append] at hst5)
          | (refine step_sl (cells := LogD.cells) (size := 4) _ (by rfl) (.tmp 16) (.tmp 17) 34 (by rfl) V.heap.size 24 i0 _ 40 Tryd.underlying34 HI.out.1 HI.out.2.1 HI.out.2.2.1 HI.out.2.2.2 rfl (by omega) _ 0 [] (by rfl) (((World.ownsRow_made y3.val #[] 0 y3.size (Nat.zero_le _) rfl).alloc _).drew) Lv Lcap L HSU.out.1 logCells_len (HSY.out _ ((((Below.refl _ _).alloc (Nat.le_refl _) _).alloc (by simp) _).drew)) (by rfl) (log_one L) (by unfold maxLen; omega) (by omega) (by have := y3.size; simp; omega) ?_; intro v5 w5 hown5 hgr5; have hst5 := OwnSt.append (ls := L) (show OwnSt 24 4 LogD.cells V _ [] _ from ⟨((World.ownsRow_made y3.val #[] 0 y3.size (Nat.zero_le _) rfl).alloc _).drew, (((y3.below.alloc y3.size _).alloc (by have := y3.size; simp; omega) _).drew)⟩) (Below.refl _ _) hown5 hgr5; rw [List.nil_append] at hst5; have hxb := grown_block (k := y3.val.heap.size + 1) (o := (.cells #[.int .i64 x.day, .string x.rope, .int .i64 x.kind, .int .i64 x.runs] 24)) (g := y3.val.heap.size) hgr5 (by have h := heap_alloc_new (y3.val.alloc (.cells #[] 24)) (.cells #[.int .i64 x.day, .string x.rope, .int .i64 x.kind, .int .i64 x.runs] 24); rw [show (y3.val.alloc (.cells #[] 24)).heap.size = y3.val.heap.size + 1 by simp] at h; exact h) rfl (by omega))
          | (refine step_sl (cells := LogD.cells) (size := 4) _ (by rfl) (.tmp 16) (.tmp 17) 34 (by rfl) V.heap.size 24 i0 _ 40 Tryd.underlying34 HI.out.1 HI.out.2.1 HI.out.2.2.1 HI.out.2.2.2 rfl (by omega) (.slice (some ⟨y3.val.heap.size + 1, 0, none⟩) 0 0) 0 [] (by rfl) (HO3.out) Lv Lcap L HSU.out.1 logCells_len (HSY.out _ ((((Below.refl _ _).alloc (Nat.le_refl _) _).alloc (by simp) _).drew)) (by rfl) (log_one L) (by unfold maxLen; omega) (by omega) (by have := y3.size; simp; omega) ?_; intro v5 w5 hown5 hgr5; have hst5 := OwnSt.append (ls := L) (show OwnSt 24 4 LogD.cells V (.slice (some ⟨y3.val.heap.size + 1, 0, none⟩) 0 0) [] _ from ⟨HO3.out, (((y3.below.alloc y3.size _).alloc (by have := y3.size; simp; omega) _).drew)⟩) (Below.refl _ _) hown5 hgr5; rw [List.nil_append] at hst5; have hxb := grown_block (k := y3.val.heap.size) (o := (.cells #[.int .i64 x.day, .string x.rope, .int .i64 x.kind, .int .i64 x.runs] 24)) (g := y3.val.heap.size + 1) hgr5 (by have h := heap_alloc_new y3.val (.cells #[.int .i64 x.day, .string x.rope, .int .i64 x.kind, .int .i64 x.runs] 24); exact (Lib.alloc_old _ _ _ (by simp)).trans h) (by simp [Value.ownBlock]) (by omega))
          | (refine step_append_lies _ (by rfl) (.tmp 18) (.tmp 20) 34 (by rfl) V.heap.size 24 i0 _ 4 40 Tryd.underlying34 HI.out.1 HI.out.2.1 HI.out.2.2.1 HI.out.2.2.2 rfl (by omega) v5 L.length (L.flatMap LogD.cells) (by rfl) (hst5.own.alloc _) ⟨w5.heap.size, 0, none⟩ 1 1 x.cells (by rfl) rfl (World.news_of_block (cs := #[.int .i64 x.day, .string x.rope, .int .i64 x.kind, .int .i64 x.runs]) (t := 24) (fr := (0, 0)) (heap_alloc_new w5 _)) (fun u hu => log_one [x] u (by simpa using hu)) (by omega) (by unfold maxLen; omega) (by omega) (by have := hst5.bel.size; first | omega | (simp; omega)) _ rfl ?_; intro g6 cap6 w6 hown6 hgr6 hg6 hlt6; have hst6 := OwnSt.append (ls := [x]) hst5 ((Below.refl _ _).alloc (Nat.le_refl _) _) (by simpa using hown6) hgr6)
          | (refine step_append_lies _ (by rfl) (.tmp 18) (.tmp 20) 34 (by rfl) V.heap.size 24 i0 _ 4 40 Tryd.underlying34 HI.out.1 HI.out.2.1 HI.out.2.2.1 HI.out.2.2.2 rfl (by omega) v5 L.length (L.flatMap LogD.cells) (by rfl) (hst5.own) ⟨y3.val.heap.size + 1, 0, none⟩ 1 1 x.cells (by rfl) rfl (World.news_of_block (cs := #[.int .i64 x.day, .string x.rope, .int .i64 x.kind, .int .i64 x.runs]) (t := 24) (fr := (0, 0)) (hxb)) (fun u hu => log_one [x] u (by simpa using hu)) (by omega) (by unfold maxLen; omega) (by omega) (by have := hst5.bel.size; first | omega | (simp; omega)) _ rfl ?_; intro g6 cap6 w6 hown6 hgr6 hg6 hlt6; have hst6 := OwnSt.append (ls := [x]) hst5 (Below.refl _ _) (by simpa using hown6) hgr6)
          | (refine step_append_lies _ (by rfl) (.tmp 18) (.tmp 20) 34 (by rfl) V.heap.size 24 i0 _ 4 40 Tryd.underlying34 HI.out.1 HI.out.2.1 HI.out.2.2.1 HI.out.2.2.2 rfl (by omega) v5 L.length (L.flatMap LogD.cells) (by rfl) (hst5.own) ⟨y3.val.heap.size, 0, none⟩ 1 1 x.cells (by rfl) rfl (World.news_of_block (cs := #[.int .i64 x.day, .string x.rope, .int .i64 x.kind, .int .i64 x.runs]) (t := 24) (fr := (0, 0)) (hxb)) (fun u hu => log_one [x] u (by simpa using hu)) (by omega) (by unfold maxLen; omega) (by omega) (by have := hst5.bel.size; first | omega | (simp; omega)) _ rfl ?_; intro g6 cap6 w6 hown6 hgr6 hg6 hlt6; have hst6 := OwnSt.append (ls := [x]) hst5 (Below.refl _ _) (by simpa using hown6) hgr6)
          | fail)
      all_goals
        go_wp2_with fail
        go_meet
        exact hide hst6
    case rest =>
      obtain ⟨Ml, hMl⟩ : ∃ Ml, Ml = L ++ [x] := ⟨_, rfl⟩
      have HC := hide hcut.out
      have hall := HALL.out
      rw [← hMl] at HC HLG hall
      obtain ⟨A5, cap5, rfl, hs5⟩ := HC.out.slAt logCells_len
      have KV0 := Gives.first (refValidL_any A5 cap5 Ml hall wc wc.heap.size (Nat.le_refl _) hs5)
      rw [← HLG.out] at KV0
      have KV := hide KV0
      have HML := hide hMl
      have HBW := hide HC.out.bel
      clear KV0 hs5 hall hcut hMl HALL HSU HSY HO3
      go_wp2_with fail
      refine KV.out.mono ?_
      rintro e w7 ⟨rfl, y7, rfl⟩
      have HB7 := hide (HBW.out.trans (y7.below.mono HBW.out.size) : Below V.heap.size V y7.val)
      cases lg
      · have HF := hide (app_arg (x := x) HD.out (by rw [← HML.out]; exact HLG.out.symm))
        go_wp2
        go_ret2
        exact ⟨_, _, _, rfl, HF.out, BRes.nil (HBD.out _ HB7.out)⟩
      · have HF := hide (app_ok (x := x) HD.out (by rw [← HML.out]; exact HLG.out.symm))
        have HSB := hide (fun (q : World) (hu : Below V.heap.size V q) => (⟨V.heap.size, HS.out.below hu⟩ : ∃ B, SlAt q B 1 byteCells ⟨A, cap, b⟩))
        have hrl : (recB b x).size ≤ 1089 := by have := recB_size b x HX.out.1; have := HX.out.2.1; omega
        have HRB := hide (bs_recB b x)
        have KR := hide (fun (u : World) (hu : Below V.heap.size V u) => (refRecord_any A cap b HX.out.2.2 (by omega) x HX.out.1 HX.out.2.1 u u.heap.size (Nat.le_refl _) (HS.out.to hu hu.size)))
        obtain ⟨Rr, hRr⟩ : ∃ Rr, Rr = recB b x := ⟨_, rfl⟩
        rw [← hRr] at KR HRB hrl
        obtain ⟨z, hz⟩ : ∃ z : After V.heap.size V, y7.val = z.val := After.exists_iff HB7.out
        rw [hz]
        clear hRr hsm hz
        go_upto_region 7 with fail
        go_region_held3 (fun w' => w'.cell? ⟨w.heap.size, 0, none⟩ = some (.int .i64 x.day) ∧ w'.cell? ⟨w.heap.size, 0 + 1, none⟩ = some (.string x.rope) ∧ w'.cell? ⟨w.heap.size, 0 + 2, none⟩ = some (.int .i64 x.kind) ∧ w'.cell? ⟨w.heap.size, 0 + 3, none⟩ = some (.int .i64 x.runs))
          (first | exact hcV ⟨_, z.below.drew⟩ | exact hcV ⟨_, ((z.below.alloc z.size _).drew)⟩ | exact hcV ⟨_, hst5.bel⟩ | exact hcV ⟨_, hst5.bel.trans (hbr.mono hst5.bel.size)⟩ | exact hcV ⟨_, hst6.bel⟩)
          (first
            | (refine step_sl (cells := byteCells) (size := 1) _ (by rfl) (.tmp 25) (.tmp 26) 22 (by rfl) V.heap.size 5 i1 _ 1 Tryd.underlying22 HI1.out.1 HI1.out.2.1 HI1.out.2.2.1 HI1.out.2.2.2 rfl (by omega) _ 0 [] (by rfl) ((World.ownsRow_made z.val #[] 0 z.size (Nat.zero_le _) rfl).drew) A cap b HX.out.2.2 byteCells_len (HSB.out _ ((z.below.alloc z.size _).drew)) (by rfl) (byte_one b) (by unfold maxLen; omega) (by omega) (by have := z.size; simp; omega) ?_; intro v5 w5 hown5 hgr5; have hst5 := OwnSt.append (ls := b) (show OwnSt 5 1 byteCells V _ [] _ from ⟨(World.ownsRow_made z.val #[] 0 z.size (Nat.zero_le _) rfl).drew, ((z.below.alloc z.size _).drew)⟩) (Below.refl _ _) hown5 hgr5; rw [List.nil_append] at hst5)
            | (go_at_call 32; refine (KR.out _ hst5.bel).mono ?_; rintro e wd ⟨rfl, hbr⟩)
            | (refine step_str _ (by rfl) (.tmp 27) (.tmp 30) 22 9 (by rfl) V.heap.size 5 i1 Tryd.underlying22 Tryd.underlying9 HI1.out.1 HI1.out.2.1 HI1.out.2.2.1 HI1.out.2.2.2 v5 b.length (b.flatMap byteCells) (by rfl) (hst5.more hbr).own Rr (by rfl) (by unfold maxLen; omega) (by omega) (hst5.more hbr).bel.size ?_; intro v6 w6 hown6 hgr6; have hst6 := OwnSt.appendStr (s := Rr) (hst5.more hbr) (Below.refl _ _) hown6 hgr6; rw [HRB.out] at hst6)
            | fail)
        go_wp2
        go_ret2
        exact ⟨_, _, _, rfl, HF.out, (BRes.of_own (hst6.from (HBD.out _ (Below.refl _ _))))⟩
  · have hne : (er != 0) = true := by simpa using he
    have HF := hide (app_no (x := x) hd he)
    have HB := hide st.bel
    clear st hd hsm he
    go_wp2
    go_ret2
    exact ⟨_, _, _, rfl, HF.out, BRes.nil (HBD.out _ HB.out)⟩
end Go.Proofs.YtemlaliackblkaaDoor
