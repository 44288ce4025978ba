/- The text of a system is the text of its plain system. reeving.number and ratio.Parse: what they read from a word. -/
import Derived.Test.YtgamhdbcejkllaaGreatDoorReeveText
import Derived.Test.YtgamhdbcejkllaaGreatDoorReevePlain
import Derived.Test.YtgamhdbcejkllaaGreatDoorReeveIO
import Derived.Deep.DeepCutAuto
namespace Go.Proofs.YtgamhdbcejkllaaGreatDoor
open Go.RowKit

theorem data_bs (a : ByteArray) : a.data.toList = bs a := (bs_data a).symm
theorem data_app (a b : ByteArray) : (a ++ b).data.toList = a.data.toList ++ b.data.toList := by simp [ByteArray.data_append]
theorem data_of (l : Array UInt8) : (⟨l⟩ : ByteArray).data.toList = l.toList := rfl
theorem data_itoa (n : Int) : (itoaB n).data.toList = Lib.itoa n := by rw [itoaB, data_of]
theorem blockLn_plain (b : BlockD) : (blockLn b).data.toList = blockP b.plain ++ [10] := by
  simp only [blockLn, data_app, data_itoa, blockP, BlockD.plain, wBlock, bs_data]
  simp
theorem fracT_plain (n d : Int) : (fracT n d).data.toList = fracL n d := by
  unfold fracT fracL
  split
  · exact data_itoa n
  · simp only [data_app, data_itoa]
    simp
theorem atT_plain (h : HoldD) : (atT h).data.toList = freeP h.plain := by
  unfold atT freeP
  by_cases he : h.block.toList.isEmpty = true
  · have hb : h.plain.block = [] := bs_empty he
    rw [if_pos he, if_pos hb]
    rfl
  · have : ¬ h.plain.block = [] := fun e => he (by rw [show h.block.toList = [] from e]; rfl)
    rw [if_neg he, if_neg this, data_bs]
    rfl
theorem holdT_plain (h : HoldD) : (holdT h).data.toList = holdP h.plain := by
  simp only [holdT, data_app, data_itoa, atT_plain, fracT_plain, holdP]
  simp [HoldD.plain]
theorem ropeT_plain (r : RopeD) : ropeT r = ropeP r.plain ++ [10] := by
  have h1 : holdsT r.holds.l = (r.holds.l.map HoldD.plain).flatMap holdP := by
    rw [holdsT, List.flatMap_map]
    congr 1
    funext h
    exact holdT_plain h
  have h2 : (haulT r.hauled).data.toList = 32 :: haulP r.hauled := by cases r.hauled <;> rfl
  rw [ropeT, h1, h2]
  simp only [ropeHd, data_app, ropeP, RopeD.plain, wRope, bs_data]
  simp
theorem sysT_plain (s : SysD) : sysT s = sysP s.plain := by
  rw [sysT, blocksT, ropesT, sysP, SysD.plain]
  simp only [List.flatMap_map]
  congr 1
  · congr 1
    funext b
    exact blockLn_plain b
  · congr 1
    funext r
    exact ropeT_plain r
end Go.Proofs.YtgamhdbcejkllaaGreatDoor
namespace Go.Proofs.YtgamhdbcejkllaaGreatDoor
open Go.RowKit

theorem fracBound : ∀ n d, fracOk n d = true → (-1152921504606846976 ≤ n ∧ n ≤ 1152921504606846976) ∧ 1 ≤ d ∧ d ≤ 1152921504606846976 := fun n d h => by
  have := (fracOk_iff.1 h).1
  omega
theorem bs_eq {s t : ByteArray} : (s.toList == t.toList) = true ↔ bs s = bs t := by rw [beq_iff_eq]; rfl
theorem bs_itoa (n : Int) : bs (itoaB n) = Lib.itoa n := bs_mk _
theorem bs_fracT (n d : Int) : bs (fracT n d) = fracL n d := by rw [bs_data]; exact fracT_plain n d
/-- a number and whether the word is its numeral -/
def NumR (w : World) (s : ByteArray) (e : Ending) (w' : World) : Prop :=
  ∃ v ok, e = .returned (.tuple #[.int .i64 v, .bool ok]) ∧ Below w.heap.size w w' ∧ numE (bs s) = if ok = true then some v else none
/-- a fraction and whether the word is its text -/
def FracR (w : World) (s : ByteArray) (e : Ending) (w' : World) : Prop :=
  ∃ n d er, e = .returned (.tuple #[.agg #[.int .i64 n, .int .i64 d], .int .i64 er]) ∧ Below w.heap.size w w' ∧ ((er = 0 ∧ fracE fracOk (bs s) = some (n, d)) ∨ (er = 7 ∧ fracE fracOk (bs s) = none))
set_option maxRecDepth 100000 in
set_option maxHeartbeats 2000000 in
theorem number_any (s : ByteArray) (hs : s.size ≤ 1000000) (w : World) (ht : TabsT w) : Calls Tryz.prog 39 #[.string s] w (NumR w s) := by
  have KA := hide (atoi_any s (by omega) w ht)
  have KI := hide fun (m : Int) (hm : I64 m) (y : After w.heap.size w) => Gives.after (x := y) (Nat.le_refl _) (itoa_any m hm y.val (ht.1.below y.below))
  have e1 : ∀ m, (⟨(Lib.itoa m).toArray⟩ : ByteArray) = itoaB m := fun _ => rfl
  simp only [e1] at KI
  clear ht e1
  go_enter Tryz.func39, Tryz.ntmps39
  go_wp2_with fail
  refine KA.out.mono ?_
  rintro e w1 ⟨v, er, rfl, hb, hr⟩
  obtain ⟨y, rfl⟩ := After.exists_iff hb
  rcases hr with ⟨hok, rfl⟩ | ⟨hbad, t, p, rfl⟩
  · have hv : I64 v := Lib.atoiAll_bounds hok
    have HE := hide (numE_ok hok)
    by_cases hl : (s.size : Int) ≤ 10
    · have hsl : (bs s).length ≤ 10 := by rw [bs_length]; omega
      have HL := hide hsl
      have HY := hide y.below
      have HV := hide hv
      clear hok hb hsl
      go_wp2_with (go_at_call 22; refine (KI.out v HV.out y).mono ?_; rintro e w' ⟨rfl, y2, rfl⟩)
      go_ret2
      refine ⟨v, _, rfl, y2.below, ?_⟩
      rw [HE.out]
      by_cases hq : (itoaB v).toList == s.toList
      · rw [if_pos hq, if_pos ⟨HL.out, by rw [bs_eq, bs_itoa] at hq; exact hq⟩]
      · rw [if_neg hq, if_neg (fun h => hq (by rw [bs_eq, bs_itoa]; exact h.2))]
    · have hsl : ¬ (bs s).length ≤ 10 := by rw [bs_length]; omega
      have HL := hide hsl
      clear hok hb hsl
      go_wp2
      go_ret2
      refine ⟨v, false, rfl, y.below, ?_⟩
      rw [HE.out, if_neg (fun h => HL.out h.1)]
      rfl
  · have HE := hide (numE_bad hbad)
    clear hbad hb
    go_wp2
    go_ret2
    refine ⟨v, false, rfl, y.below, ?_⟩
    rw [HE.out]
    rfl
set_option maxRecDepth 100000 in
set_option maxHeartbeats 4000000 in
theorem ratioParse_any (s : ByteArray) (hs : s.size ≤ 1000000) (w : World) (ht : TabsT w) : Calls Tryz.prog 61 #[.string s] w (FracR w s) := by
  obtain ⟨W, hW, hWs, hWb, hWh⟩ := boxed w (.cells #[.int .i64 0, .int .i64 0] 55)
  have KC := hide (cut_any 47 s W (ht.below hWb) (by omega))
  have HT := hide (ht.below hWb)
  have KA := hide fun (a : ByteArray) (ha : a.size ≤ 1000000) (y : After W.heap.size W) => atoi_any a (by omega) y.val (HT.out.below y.below)
  have KV := hide fun (n d : Int) (hn : I64 n) (u : World) => Gives.first (fracValid_any n d hn u)
  have KT := hide fun (n d : Int) (hn : I64 n) (hd : I64 d) (u : World) (hu : Below W.heap.size W u) => Gives.first (fracText_any n d hn hd u (HT.out.below hu).1)
  have HWH := hide hWh
  have HWB := hide hWb
  have HW := hide hW
  have hlt : w.heap.size < W.heap.size := by omega
  clear hW hWh hWb ht
  have key : ∀ (a b : ByteArray) (t : Bool), ((t = true ∧ bs s = bs a ++ 47 :: bs b ∧ ∀ c ∈ bs a, c ≠ 47) ∨ (t = false ∧ a = s ∧ b = ⟨#[]⟩ ∧ ∀ c ∈ bs s, c ≠ 47)) →
      a.size ≤ 1000000 ∧ b.size ≤ 1000000 ∧ (∀ v u, Lib.atoiAll (bs a) = .ok v → Lib.atoiAll (bs (if t then b else ⟨#[49]⟩)) = .ok u → fracE fracOk (bs s) = if fracOk v u = true ∧ fracL v u = bs s then some (v, u) else none) ∧
      ((∀ v, Lib.atoiAll (bs a) ≠ .ok v) ∨ (∀ u, Lib.atoiAll (bs (if t then b else ⟨#[49]⟩)) ≠ .ok u) → fracE fracOk (bs s) = none) := by
    intro a b t h
    rcases h with ⟨rfl, h1, h2⟩ | ⟨rfl, rfl, rfl, h2⟩
    · have hlen : s.size = a.size + (b.size + 1) := by
        have := congrArg List.length h1
        simpa [bs_length] using this
      refine ⟨by omega, by omega, fun v u hv hu => ?_, fun h => ?_⟩
      · rw [h1]
        exact fracE_cut fracBound h2 hv (by simpa using hu)
      · rw [h1]
        exact fracE_cut_bad fracBound h2 (by simpa using h)
    · have h49 : Lib.atoiAll (bs ⟨#[49]⟩) = .ok 1 := by rw [bs_data]; kernel_rfl
      refine ⟨hs, by show (#[] : Array UInt8).size ≤ 1000000; simp, fun v u hv hu => ?_, fun h => ?_⟩
      · simp only [Bool.false_eq_true, if_false] at hu
        rw [h49] at hu
        injection hu with hu
        subst hu
        exact fracE_whole fracBound h2 hv
      · rcases h with h | h
        · exact fracE_whole_bad fracBound h2 h
        · simp only [Bool.false_eq_true, if_false] at h
          exact absurd h49 (h 1)
  have HKEY := hide key
  clear key
  go_enter Tryz.func61, Tryz.ntmps61
  go_wp2_with fail
  rw [← HW.out]
  refine KC.out.mono ?_
  rintro e w1 ⟨a, b, t, rfl, hb, hr⟩
  obtain ⟨y, rfl⟩ := After.exists_iff hb
  obtain ⟨hsa, hsb, hgood, hbad⟩ := HKEY.out a b t hr
  have HGD := hide hgood
  have HBAD := hide hbad
  clear hgood hbad hr hb
  obtain ⟨c, hc⟩ : ∃ c, c = if t then b else ⟨#[49]⟩ := ⟨_, rfl⟩
  have hsc : c.size ≤ 1000000 := by
    rw [hc]; split
    · exact hsb
    · decide
  rw [← hc] at HGD HBAD
  go_upto_if 19 with fail
  go_cut [5] (fun x wx => x = .string c ∧ wx = y.val)
  case first =>
    cases t
    · have HC := hide hc
      clear hc
      go_wp2_with fail
      go_meet
      exact ⟨by rw [HC.out]; rfl, rfl⟩
    · have HC := hide hc
      clear hc
      go_wp2_with fail
      go_meet
      exact ⟨by rw [HC.out]; rfl, rfl⟩
  case rest =>
  obtain ⟨rfl, rfl⟩ := hcut
  clear hc
  go_wp2_with fail
  refine (KA.out a hsa y).mono ?_
  rintro e w2 ⟨v, er, rfl, hb2, hr2⟩
  obtain ⟨y2, rfl⟩ := After.exists_iff (y.below.trans (hb2.mono y.size))
  clear hb2
  go_wp2_with fail
  refine (KA.out c hsc y2).mono ?_
  rintro e w3 ⟨u, er2, rfl, hb3, hr3⟩
  obtain ⟨y3, rfl⟩ := After.exists_iff (y2.below.trans (hb3.mono y2.size))
  clear hb3
  have fin : ∀ (u : World), Below W.heap.size W u → Below w.heap.size w u := fun u hu => HWB.out.trans (hu.mono (by omega))
  have hres := fun (u : World) (hu : Below W.heap.size W u) => (hu.block _ hlt).trans HWH.out
  obtain ⟨V, hV, hVs, hVb, hVh⟩ := boxed y3.val (.cells #[.int .i64 v, .int .i64 u] 55)
  have hWV : Below W.heap.size W V := y3.below.trans (hVb.mono y3.size)
  have hVc := fun z : After V.heap.size V => two_cells ((z.below.block _ (by omega)).trans hVh)
  have hRc := fun z : After V.heap.size V => hres z.val (hWV.trans (z.below.mono hWV.size))
  have hRd := fun z : After V.heap.size V => two_cells (hRc z)
  have hset := fun (z : After V.heap.size V) (p q : Value) => two_cells (two_set (c := p) (d := q) (hRc z))
  have hfz := fun (z : After V.heap.size V) i => block_unfrozen (hRc z) i
  have hfz1 := fun (z : After V.heap.size V) p i => block_unfrozen (block_set (hRc z) (i := 0) p) i
  have HF : Hid (∀ (z : After V.heap.size V) (p q : Value), Below w.heap.size w ((z.val.setCell ⟨w.heap.size, 0, none⟩ p).setCell ⟨w.heap.size, 1, none⟩ q)) := hide fun z p q =>
    ((fin _ (hWV.trans (z.below.mono hWV.size))).setCell (p := ⟨w.heap.size, 0, none⟩) (Nat.le_refl _) _).setCell (p := ⟨w.heap.size, 1, none⟩) (Nat.le_refl _) _
  have HV := hide hV
  have HWV := hide hWV
  clear hV hWV hVb hVh hRc hres fin
  have bad : ∀ z : After V.heap.size V, fracE fracOk (bs s) = none → FracR w s (.returned (.tuple #[.agg #[.int .i64 0, .int .i64 0], .int .i64 7])) ((z.val.setCell ⟨w.heap.size, 0, none⟩ (.int .i64 0)).setCell ⟨w.heap.size, 1, none⟩ (.int .i64 0)) :=
    fun z h => ⟨0, 0, 7, rfl, HF.out z _ _, Or.inr ⟨rfl, h⟩⟩
  have HB := hide bad
  have hs0 := fun p q => hset (After.refl _ _) p q
  have hf0 := fun i => hfz (After.refl _ _) i
  have hf1 := fun p i => hfz1 (After.refl _ _) p i
  have hr0 := hRd (After.refl _ _)
  simp only [After.refl] at hs0 hf0 hf1 hr0
  clear bad
  rcases hr2 with ⟨hv, rfl⟩ | ⟨hv, t2, p2, rfl⟩
  · rcases hr3 with ⟨hu, rfl⟩ | ⟨hu, t3, p3, rfl⟩
    · have HG := hide (HGD.out v u hv hu)
      have hvI : I64 v := Lib.atoiAll_bounds hv
      have huI : I64 u := Lib.atoiAll_bounds hu
      have KVV := hide (KV.out v u hvI V)
      have HI := hide (And.intro hvI huI)
      clear hv hu hvI huI
      have hVc0 := hVc (After.refl _ _)
      simp only [After.refl] at hVc0
      cases hf : fracOk v u
      · rw [hf] at KVV
        have HN := hide (show fracE fracOk (bs s) = none by rw [HG.out, hf, if_neg (by simp)])
        clear hf
        go_wp2_with (go_at_call 46; rw [← HV.out]; refine KVV.out.mono ?_; rintro e w' ⟨rfl, z, rfl⟩; have hs3 := hset z; have hf3 := hfz z; have hf4 := hfz1 z)
        refine bodyPost_ret (by simp [results, Tryz.results61, go_sem, hs3]; try rfl) rfl ?_
        exact HB.out z HN.out
      · rw [hf] at KVV
        have HG2 := hide (show fracE fracOk (bs s) = if fracL v u = bs s then some (v, u) else none by rw [HG.out, hf]; simp)
        have KTT := hide fun z : After V.heap.size V => Gives.after (x := z) (Nat.le_refl _) (fracText_any v u HI.out.1 HI.out.2 z.val (HT.out.below (HWV.out.trans (z.below.mono HWV.out.size))).1)
        clear hf
        cases hq : ((fracT v u).toList == s.toList)
        · have HN := hide (show fracE fracOk (bs s) = none by rw [HG2.out, if_neg (fun h => by rw [← bs_fracT, ← bs_eq, hq] at h; cases h)])
          have hq2 : ((fracT v u).toList != s.toList) = true := by rw [bne, hq]; rfl
          go_wp2_with (first
            | (go_at_call 46; rw [← HV.out]; refine KVV.out.mono ?_; rintro e w' ⟨rfl, z, rfl⟩; have hvz := hVc z)
            | (go_at_call 47; refine (KTT.out z).mono ?_; rintro e w' ⟨rfl, z2, rfl⟩; have hs3 := hset z2; have hf3 := hfz z2; have hf4 := hfz1 z2))
          refine bodyPost_ret (by simp [results, Tryz.results61, go_sem, hs3]; try rfl) rfl ?_
          exact HB.out z2 HN.out
        · have HN := hide (show fracE fracOk (bs s) = some (v, u) by rw [HG2.out, if_pos (by rw [← bs_fracT, ← bs_eq, hq])])
          have hq2 : ((fracT v u).toList != s.toList) = false := by rw [bne, hq]; rfl
          go_wp2_with (first
            | (go_at_call 46; rw [← HV.out]; refine KVV.out.mono ?_; rintro e w' ⟨rfl, z, rfl⟩; have hvz := hVc z)
            | (go_at_call 47; refine (KTT.out z).mono ?_; rintro e w' ⟨rfl, z2, rfl⟩; have hs3 := hset z2; have hf3 := hfz z2; have hf4 := hfz1 z2; have hvz2 := hVc z2))
          refine bodyPost_ret (by simp [results, Tryz.results61, go_sem, hs3]; try rfl) rfl ?_
          exact ⟨v, u, 0, rfl, HF.out z2 _ _, Or.inl ⟨rfl, HN.out⟩⟩
    · have HN := hide (HBAD.out (Or.inr hu))
      clear hv hu
      simp only [HV.out] at hs0 hf0 hf1 hr0
      go_wp2_with fail
      refine bodyPost_ret (by simp [results, Tryz.results61, go_sem, hs0]; try rfl) rfl ?_
      rw [← HV.out]
      exact HB.out (After.refl _ _) HN.out
  · have HN := hide (HBAD.out (Or.inl hv))
    clear hv hr3
    simp only [HV.out] at hs0 hf0 hf1 hr0
    go_wp2_with fail
    refine bodyPost_ret (by simp [results, Tryz.results61, go_sem, hs0]; try rfl) rfl ?_
    rw [← HV.out]
    exact HB.out (After.refl _ _) HN.out
end Go.Proofs.YtgamhdbcejkllaaGreatDoor
