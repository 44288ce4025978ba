/- loftblocklaw01.DecimalJoined: the walk of the law. -/
import Derived.Test.YtplblogdgbnbdaaDoorDecAwake
import Derived.Test.YtplblogdgbnbdaaDoorDecFacts
import Derived.Test.YtplblogdgbnbdaaDoorDecSame
namespace Go.Proofs.YtplblogdgbnbdaaDoor
open Go.RowKit

/-- the text that the law joins for a token -/
def tokB (t : TokD) : ByteArray := if t.kind = 4 then ⟨#[10]⟩ else t.text
theorem tokB_bare (t : TokD) : (tokB t).data.toList = tokText t.bare := by
  rw [← bs_data]; unfold tokB tokText TokD.bare
  split
  · exact bs_mk [10]
  · rfl
theorem joined_toks {s : List UInt8} {l : List TokD} (h : toks s = .good l) : ∃ m, toks (joined (l.map TokD.bare)) = .good m ∧ l.map TokD.bare = m.map TokD.bare ∧ (joined (l.map TokD.bare)).length ≤ 2 * s.length ∧ m.length ≤ 2 * s.length + 1 := by
  obtain ⟨r', e, hT⟩ := TK.of_toks _ _ _ _ _ _ h
  rw [List.nil_append] at e
  subst e
  obtain ⟨j1, j2, j3⟩ := hT.join
  obtain ⟨m, e1, e2⟩ := j1.to_toks ((joined (l.map TokD.bare)).length + 1) [] 1 1 (by omega)
  rw [List.nil_append] at e1
  refine ⟨m, e1, e2.symm, j2, ?_⟩
  have := toks_length e1
  omega
theorem toks_placed {s : List UInt8} {l : List TokD} (h : toks s = .good l) : PlacedFrom s 0 l ∧ ∃ r0 t, l = r0 ++ [t] ∧ t.kind = 5 := by
  obtain ⟨r', e, h1, h2⟩ := placed_of_toks s _ _ _ _ _ _ h [] rfl rfl rfl
  rw [List.nil_append] at e
  subst e
  exact ⟨h1, h2⟩
theorem joined_lib (l : List TokD) : Lib.join ((l.map tokB).map (·.data.toList)) [32] = joined (l.map TokD.bare) := by
  rw [joined_join, List.map_map, List.map_map]
  congr 1
  exact List.map_congr_left fun t _ => tokB_bare t
/-- what holds at the head of a round: the texts so far -/
structure JoinSt (W : World) (bv : Value) (xs : List ByteArray) (wr : World) : Prop where
  below : Below W.heap.size W wr
  own : wr.ownsRow W.heap.size 9 1 bv xs.length (xs.map Value.string)
theorem JoinSt.to {W : World} {bv : Value} {xs : List ByteArray} {wr z : World} (h : JoinSt W bv xs wr) (hb : Below wr.heap.size wr z) : JoinSt W bv xs z := ⟨h.below.trans (hb.mono h.below.size), own_below h.own hb⟩
theorem JoinSt.append {W z u w' : World} {bv v' : Value} {xs : List ByteArray} {b : ByteArray} (h : JoinSt W bv xs z) (hu : Below z.heap.size z u)
    (hown : w'.ownsRow W.heap.size 9 1 v' (xs.length + 1) (xs.map Value.string ++ [.string b])) (hgr : u.grownBy w' bv.ownBlock) : JoinSt W v' (xs ++ [b]) w' := by
  have hs := h.below.size
  have hb : Below W.heap.size z w' := Below.grown (hu.mono hs) hgr (by have := hu.size; omega) (own_owner h.own)
  refine ⟨h.below.trans hb, ?_⟩
  rw [List.map_append, List.length_append]
  exact hown
theorem infoString : (Tryd.prog.info? 9).map (fun i => (i.zero, i.size, i.bytes)) = some (some (.string ⟨#[]⟩), 1, 16) := by kernel_rfl
theorem splitLines_any (s : ByteArray) (w : World) (ht : Tabs w) (hs : s.size ≤ 1000) : Calls Tryd.prog 27 #[.string s, .string ⟨#[10]⟩] w fun e w' =>
    ∃ LB : List ByteArray, LB.map bs = linesOf (bs s) ∧ e = .returned (.slice (some ⟨w.heap.size, 0, none⟩) LB.length LB.length) ∧ w' = w.alloc (.cells (LB.map Value.string).toArray 9) := by
  obtain ⟨_, _, m, hm⟩ := ht
  refine (Tryd.strings_Split s ⟨#[10]⟩ m w (by omega) hm (by decide)).mono ?_
  rintro e w' ⟨he, hw⟩
  have h1 := split_lines s.size (bs s) (by rw [bs_length]; omega)
  have h2 : Lib.countB s ⟨#[10]⟩ = (bs s).count 10 := by rw [← h1.1, bs_data]
  have h3 : (Lib.splitB ⟨#[10]⟩ 0 (Lib.countB s ⟨#[10]⟩) s).map bs = linesOf (bs s) := by
    rw [← h1.2, h2, bs_data s, ← Lib.splitB_data ⟨#[10]⟩ 0]
    exact List.map_congr_left fun x _ => bs_data x
  have h4 : (Lib.splitB ⟨#[10]⟩ 0 (Lib.countB s ⟨#[10]⟩) s).length = Lib.countB s ⟨#[10]⟩ + 1 := by
    have := congrArg List.length h3
    rw [List.length_map, linesOf_length] at this
    omega
  exact ⟨_, h3, by rw [he, h4], hw⟩
set_option maxHeartbeats 8000000 in
set_option maxRecDepth 100000 in
theorem decimalJoined_any (s : ByteArray) (w : World) (ht : Tabs w) : Calls Tryd.prog 10 #[.string s] w (Gives w (.bool true)) := by
  obtain ⟨i9, hi9, hz9, hs9, hb9⟩ := info_parts infoString
  have HI := hide (And.intro hi9 (And.intro hz9 (And.intro hs9 hb9)))
  clear hi9 hz9 hs9 hb9
  have KA := hide (Gives.first (awake01 w ht))
  by_cases hs : 1000 < (s.size : Int)
  · clear ht
    go_enter Tryd.func10, Tryd.ntmps10
    go_wp2_with fail
    refine KA.out.mono ?_
    rintro e w1 ⟨rfl, y1, rfl⟩
    go_wp2
    go_ret
    exact Gives.mk rfl y1.below
  · have KT := hide fun y : After w.heap.size w => ht.below y.below
    clear ht
    have K1 := hide fun w : World => tokens_any s (by omega) w
    cases hR : toks (bs s) with
    | bad a b =>
      rw [hR] at K1
      clear hR
      go_enter Tryd.func10, Tryd.ntmps10
      go_wp2_with fail
      refine KA.out.mono ?_
      rintro e w1 ⟨rfl, y1, rfl⟩
      go_wp2_with fail
      refine (K1.out y1.val).mono ?_
      rintro e w2 ⟨hb2, rfl⟩
      go_wp2
      go_ret
      exact Gives.mk rfl ((y1.below.trans (hb2.mono y1.size)).alloc (by have := y1.size; have := hb2.size; omega) _)
    | good l =>
      rw [hR] at K1
      obtain ⟨hP, r0, tz, hlz, hz5⟩ := toks_placed hR
      obtain ⟨m, hm, hbare, hj1, hj2⟩ := joined_toks hR
      have hlen : l.length ≤ s.size + 1 := by have := toks_length hR; rw [bs_length] at this; exact this
      rw [bs_length] at hj1 hj2
      have K5 := hide fun w : World => (by have := tokens_any ⟨(joined (l.map TokD.bare)).toArray⟩ (by show (joined (l.map TokD.bare)).toArray.size ≤ _; rw [List.size_toArray]; omega) w; rw [bs_mk, hm] at this; exact this)
      have HBR := hide hbare
      have HP := hide hP
      have HZ5 := hide (show 0 < l.length ∧ l[l.length - 1]? = some tz by rw [hlz]; simp)
      have hn0 : 0 < l.length := HZ5.out.1
      clear hR hP hlz hm hbare
      obtain ⟨N, hN⟩ : ∃ N, N = l.length := ⟨_, rfl⟩
      have HN := hide hN
      rw [← hN] at hlen hn0
      clear hN
      go_enter Tryd.func10, Tryd.ntmps10
      go_wp2_with fail
      refine KA.out.mono ?_
      rintro e w1 ⟨rfl, y1, rfl⟩
      go_wp2_with fail
      refine (K1.out y1.val).mono ?_
      rintro e w2 ⟨hb2, v2, rfl, hown2⟩
      obtain ⟨A2, c2, rfl, hsl2⟩ := TokSl.of_owns hown2
      have HB2 := hide hb2
      have HS2 := hide hsl2
      obtain ⟨g, rfl, hg, hcs⟩ := hsl2 HZ5.out.1
      have hz := hcs (l.length - 1) tz HZ5.out.2 0 _ rfl
      clear hb2 hown2 hsl2 hcs
      obtain ⟨W2, hW2, hWs2, hWb2, hWh2⟩ := boxed w2 (.cells #[.int .i64 0, .int .i64 0] 38)
      rw [hz5] at hz
      have HW2 := hide hW2
      have HWB2 := hide hWb2
      have HWS2 := hide hWs2
      clear hW2 hWb2 hWh2 hWs2
      rw [← HN.out] at hz ⊢
      rw [Nat.add_zero] at hz
      have k0 : (0 : Int) ≤ (N : Int) - 1 := by omega
      have k1 : ((N : Int) - 1) < (N : Int) := by omega
      have k2 : ((N : Int) - 1).toNat = N - 1 := by omega
      have KQ := hide (show Tabs W2 from (KT.out y1).below (HB2.out.trans (HWB2.out.mono HB2.out.size)))
      go_wp2_with fail
      rw [← HW2.out]
      refine (splitLines_any s W2 (KQ.out) (by omega)).mono ?_
      rintro e w3 ⟨LB, hLB, rfl, hw3⟩
      obtain ⟨W3, hW3, hWs3, hWb3, hWh3⟩ := boxed W2 (.cells (LB.map Value.string).toArray 9)
      rw [← hW3] at hw3
      subst hw3
      have hL3 : ∀ (j : Nat) (x : ByteArray), LB[j]? = some x → w3.cell? ⟨W2.heap.size, j, none⟩ = some (.string x) := fun j x hx => (cell_of_row w3 W2.heap.size j _ _ _ hWh3).trans (by simp [hx])
      have hS3 : TokSl w3 w3.heap.size (some ⟨g, 0, none⟩) l := HS2.out.to (HWB2.out.trans (hWb3.mono HWB2.out.size)) (by have := HWS2.out; omega)
      have hq : W2.heap.size < w3.heap.size := by omega
      have HB3 := hide (show Below w.heap.size w w3 from (y1.below.trans (HB2.out.mono y1.size)).trans ((HWB2.out.trans (hWb3.mono HWB2.out.size)).mono (by have := y1.size; have := HB2.out.size; omega)))
      obtain ⟨q, hqe⟩ : ∃ q, q = W2.heap.size := ⟨_, rfl⟩
      rw [← hqe] at hL3 hq ⊢
      obtain ⟨M, hM⟩ : ∃ M, M = LB.length := ⟨_, rfl⟩
      rw [← hM]
      have hMs : M ≤ s.size + 1 := by
        have h1 := congrArg List.length hLB
        rw [List.length_map, linesOf_length] at h1
        have h2 : (bs s).count 10 ≤ (bs s).length := List.count_le_length
        rw [bs_length] at h2
        omega
      have HL3 := hide hL3
      have HS3 := hide hS3
      have HLB := hide hLB
      have HM := hide hM
      clear hL3 hS3 hLB hM hqe hWh3 hWb3 hWs3 hW3 KQ hz hg HS2 HB2 HWS2 HWB2 HW2 K1 KT KA
      go_wp2
      go_loopw [7, 47] (fun bv kv wr => ∃ k : Nat, kv = .int .i64 k ∧ k ≤ N ∧ Hid (JoinSt w3 bv ((l.take k).map tokB) wr)) (fun _ kv _ => N - (intOf kv).toNat)
      case atStart => exact ⟨0, rfl, Nat.zero_le _, hide ⟨Below.refl _ _, own_nil _ _ _ _⟩⟩
      case round =>
        obtain ⟨k, rfl, hk, hst⟩ := hrel
        obtain ⟨x, rfl⟩ := After.exists_iff hst.out.below
        by_cases hlt : k < N
        · obtain ⟨t, ht⟩ : ∃ t, l[k]? = some t := ⟨l[k]'(by have := HN.out; omega), List.getElem?_eq_getElem _⟩
          obtain ⟨L, hL⟩ := tokAt HP.out ht
          obtain ⟨B, hB1, hB2⟩ : ∃ B, LB[(t.line - 1).toNat]? = some B ∧ bs B = L := by
            have := hL.lineAt
            rw [← HLB.out, List.getElem?_map] at this
            simpa using this
          subst hB2
          obtain ⟨g', hge, hg, hcs⟩ := HS3.out HZ5.out.1
          obtain rfl : g = g' := by simpa using hge
          have a0 := fun y : After w3.heap.size w3 => (y.below.cell (p := ⟨g, k * 4 + 0, none⟩) hg).trans (hcs k t ht 0 _ rfl)
          have a1 := fun y : After w3.heap.size w3 => (y.below.cell (p := ⟨g, k * 4 + 1, none⟩) hg).trans (hcs k t ht 1 _ rfl)
          have a2 := fun y : After w3.heap.size w3 => (y.below.cell (p := ⟨g, k * 4 + 2, none⟩) hg).trans (hcs k t ht 2 _ rfl)
          have a3 := fun y : After w3.heap.size w3 => (y.below.cell (p := ⟨g, k * 4 + 3, none⟩) hg).trans (hcs k t ht 3 _ rfl)
          rw [Nat.add_zero] at a0
          have k0 : 0 ≤ (k : Int) := by omega
          have k1 : (k : Int) < (N : Int) := by omega
          have HCS := hide hcs
          have HT := hide ht
          have HLT := hide hL
          have HB1 := hide hB1
          have hl1 := hL.line1
          have hl2 := hL.line2
          have hc1 := hL.col1
          have hc2 := hL.col2
          have hll := hL.lenL
          rw [← HLB.out, List.length_map, ← HM.out] at hl2
          rw [bs_length] at hc2
          rw [bs_length, bs_length] at hll
          clear hcs ht hL hB1 hge
          go_wp2_with fail
          obtain ⟨W4, hW4, hWs4, hWb4, hWh4⟩ := boxed x.val (.cells #[.int .i64 t.kind, .string t.text, .int .i64 t.line, .int .i64 t.col] 51)
          rw [← hW4]
          obtain ⟨p, hp⟩ : ∃ p, p = x.val.heap.size := ⟨_, rfl⟩
          have hp4 : p < W4.heap.size := by omega
          have h34 : w3.heap.size ≤ W4.heap.size := by have := x.size; omega
          have hB34 : Below w3.heap.size w3 W4 := x.below.trans (hWb4.mono x.size)
          rw [← hp] at hWh4
          have e0 := fun y : After W4.heap.size W4 => After.cells hWh4 hp4 y 0 (.int .i64 t.kind) rfl
          have e1 := fun y : After W4.heap.size W4 => After.cells hWh4 hp4 y 1 (.string t.text) rfl
          have e2 := fun y : After W4.heap.size W4 => After.cells hWh4 hp4 y 2 (.int .i64 t.line) rfl
          have e3 := fun y : After W4.heap.size W4 => After.cells hWh4 hp4 y 3 (.int .i64 t.col) rfl
          have HC := fun y : After W4.heap.size W4 => (show Below w3.heap.size w3 y.val from hB34.trans (y.below.mono h34))
          have HWW := hide (And.intro hW4 (And.intro hWs4 hWb4))
          rw [← hp]
          have HPE := hide hp
          clear hW4 hWs4 hWb4 hp a0 a1 a2 a3
          have f0 := fun y : After W4.heap.size W4 => (show y.val.cell? ⟨q, t.line.toNat - 1, none⟩ = some (.string B) from ((HC y).cell (p := ⟨q, t.line.toNat - 1, none⟩) hq).trans (HL3.out _ B (by have := HB1.out; rwa [show (t.line - 1).toNat = t.line.toNat - 1 by omega] at this)))
          have g0 : 0 ≤ t.line - 1 := by omega
          have g1 : t.line - 1 < (M : Int) := by omega
          have g2 : 0 ≤ t.col - 1 := by omega
          have g3 : t.col - 1 ≤ (B.size : Int) := by omega
          have KH := hide fun y : After W4.heap.size W4 => (show Calls Tryd.prog 28 #[.string (B.extract (t.col.toNat - 1) B.size), .string t.text] y.val _ from by
            have := hasPrefix_any (B.extract (t.col.toNat - 1) B.size) t.text y.val
            rw [← bs_data, ← bs_data, bs_drop, show Lib.hasPrefix ((bs B).drop (t.col.toNat - 1)) (bs t.text) = true by have := HLT.out.text; rwa [show (t.col - 1).toNat = t.col.toNat - 1 by omega] at this] at this
            exact this)
          have HC := hide HC
          have YR : W4 = (After.refl W4.heap.size W4).val := rfl
          rcases Nat.eq_zero_or_pos k with hk0 | hk0
          · have dk : decide (0 < (k : Int)) = false := by rw [decide_eq_false_iff_not]; omega
            have d1 : decide (t.line < 1) = false := by rw [decide_eq_false_iff_not]; omega
            have d2 : decide ((M : Int) < t.line) = false := by rw [decide_eq_false_iff_not]; omega
            rw [YR]
            refine wp_region_after (After.refl W4.heap.size W4) (by kernel_rfl) (by kernel_rfl) ?_
            repeat (go_big_quiet_step (fail))
            refine wpQuiet_nil ?_
            intro z
            clear d1 d2
            go_wp2_with fail
            have d3 : decide (t.col < 1) = false := by rw [decide_eq_false_iff_not]; omega
            have d4 : decide ((B.size : Int) + 1 < t.col) = false := by rw [decide_eq_false_iff_not]; omega
            refine wp_region_after z (by kernel_rfl) (by kernel_rfl) ?_
            repeat (go_big_quiet_step ((go_at_call 28; exact Gives.after (Nat.le_refl _) (KH.out _))))
            refine wpQuiet_nil ?_
            intro z2
            clear d3 d4
            have HZ := hide (hst.out.to ((HWW.out.2.2).trans (z2.below.mono (by have := HWW.out.2.1; omega))))
            cases hk4 : (t.kind == 4)
            · go_wp2_with (at_builtin; refine Hid.out ?_)
              refine Lib.hid ?_
              refine wpList_append_own _ rfl _ _ 53 rfl w3.heap.size 9 i9 _ 1 16 Tryd.underlying53 HI.out.1 HI.out.2.1 HI.out.2.2.1 HI.out.2.2.2 rfl (by decide) _ _ _ rfl (HZ.out.own.alloc _) ⟨z2.val.heap.size, 0, none⟩ 1 1 [.string t.text] rfl rfl (World.news_of_block (heap_alloc_new z2.val _)) (fun u hu => by simp at hu; subst hu; rfl) (by unfold maxLen; simp; omega) (by simp; omega) (by have := HZ.out.below.size; simp; omega) ?_
              intro v4 w4 hown hgr _
              have HJ := hide (JoinSt.append HZ.out ((Below.refl _ _).alloc (Nat.le_refl _) _) hown hgr)
              rw [show (l.take k).map tokB ++ [t.text] = (l.take (k + 1)).map tokB by rw [List.take_add_one, HT.out]; simp [tokB, show ¬ t.kind = 4 by simpa using hk4]] at HJ
              clear hown hgr HZ
              go_wp2
              exact ⟨⟨k + 1, by go_num, by omega, HJ⟩, by simp [intOf]; omega⟩
            · go_wp2_with (at_builtin; refine Hid.out ?_)
              refine Lib.hid ?_
              refine wpList_append_own _ rfl _ _ 53 rfl w3.heap.size 9 i9 _ 1 16 Tryd.underlying53 HI.out.1 HI.out.2.1 HI.out.2.2.1 HI.out.2.2.2 rfl (by decide) _ _ _ rfl (HZ.out.own.alloc _) ⟨z2.val.heap.size, 0, none⟩ 1 1 [.string ⟨#[10]⟩] rfl rfl (World.news_of_block (heap_alloc_new z2.val _)) (fun u hu => by simp at hu; subst hu; rfl) (by unfold maxLen; simp; omega) (by simp; omega) (by have := HZ.out.below.size; simp; omega) ?_
              intro v4 w4 hown hgr _
              have HJ := hide (JoinSt.append HZ.out ((Below.refl _ _).alloc (Nat.le_refl _) _) hown hgr)
              rw [show (l.take k).map tokB ++ [⟨#[10]⟩] = (l.take (k + 1)).map tokB by rw [List.take_add_one, HT.out]; simp [tokB, show t.kind = 4 by simpa using hk4]] at HJ
              clear hown hgr HZ
              go_wp2
              exact ⟨⟨k + 1, by go_num, by omega, HJ⟩, by simp [intOf]; omega⟩
          · have dk : decide (0 < (k : Int)) = true := by rw [decide_eq_true_eq]; omega
            have d1 : decide (t.line < 1) = false := by rw [decide_eq_false_iff_not]; omega
            have d2 : decide ((M : Int) < t.line) = false := by rw [decide_eq_false_iff_not]; omega
            obtain ⟨t', ht'⟩ : ∃ t', l[k - 1]? = some t' := ⟨l[k - 1]'(by have := HN.out; omega), List.getElem?_eq_getElem _⟩
            have b2 := fun y : After W4.heap.size W4 => ((HC.out y).cell (p := ⟨g, (k - 1) * 4 + 2, none⟩) hg).trans (HCS.out (k - 1) t' ht' 2 _ rfl)
            have b3 := fun y : After W4.heap.size W4 => ((HC.out y).cell (p := ⟨g, (k - 1) * 4 + 3, none⟩) hg).trans (HCS.out (k - 1) t' ht' 3 _ rfl)
            have q0 : 0 ≤ (k : Int) - 1 := by omega
            have q1 : (k : Int) - 1 < (N : Int) := by omega
            have q2 : ((k : Int) - 1).toNat = k - 1 := by omega
            rcases HLT.out.asc t' hk0 ht' with ha | ⟨ha1, ha2⟩
            · have d5 : decide (t.line < t'.line) = false := by rw [decide_eq_false_iff_not]; omega
              have d6 : (t.line == t'.line) = false := by rw [beq_eq_false_iff_ne]; omega
              clear ht' b3
              rw [YR]
              refine wp_region_after (After.refl W4.heap.size W4) (by kernel_rfl) (by kernel_rfl) ?_
              repeat (go_big_quiet_step (fail))
              refine wpQuiet_nil ?_
              intro z
              clear d1 d2 d5 d6 b2 dk
              go_wp2_with fail
              have d3 : decide (t.col < 1) = false := by rw [decide_eq_false_iff_not]; omega
              have d4 : decide ((B.size : Int) + 1 < t.col) = false := by rw [decide_eq_false_iff_not]; omega
              refine wp_region_after z (by kernel_rfl) (by kernel_rfl) ?_
              repeat (go_big_quiet_step ((go_at_call 28; exact Gives.after (Nat.le_refl _) (KH.out _))))
              refine wpQuiet_nil ?_
              intro z2
              clear d3 d4
              have HZ := hide (hst.out.to ((HWW.out.2.2).trans (z2.below.mono (by have := HWW.out.2.1; omega))))
              cases hk4 : (t.kind == 4)
              · go_wp2_with (at_builtin; refine Hid.out ?_)
                refine Lib.hid ?_
                refine wpList_append_own _ rfl _ _ 53 rfl w3.heap.size 9 i9 _ 1 16 Tryd.underlying53 HI.out.1 HI.out.2.1 HI.out.2.2.1 HI.out.2.2.2 rfl (by decide) _ _ _ rfl (HZ.out.own.alloc _) ⟨z2.val.heap.size, 0, none⟩ 1 1 [.string t.text] rfl rfl (World.news_of_block (heap_alloc_new z2.val _)) (fun u hu => by simp at hu; subst hu; rfl) (by unfold maxLen; simp; omega) (by simp; omega) (by have := HZ.out.below.size; simp; omega) ?_
                intro v4 w4 hown hgr _
                have HJ := hide (JoinSt.append HZ.out ((Below.refl _ _).alloc (Nat.le_refl _) _) hown hgr)
                rw [show (l.take k).map tokB ++ [t.text] = (l.take (k + 1)).map tokB by rw [List.take_add_one, HT.out]; simp [tokB, show ¬ t.kind = 4 by simpa using hk4]] at HJ
                clear hown hgr HZ
                go_wp2
                exact ⟨⟨k + 1, by go_num, by omega, HJ⟩, by simp [intOf]; omega⟩
              · go_wp2_with (at_builtin; refine Hid.out ?_)
                refine Lib.hid ?_
                refine wpList_append_own _ rfl _ _ 53 rfl w3.heap.size 9 i9 _ 1 16 Tryd.underlying53 HI.out.1 HI.out.2.1 HI.out.2.2.1 HI.out.2.2.2 rfl (by decide) _ _ _ rfl (HZ.out.own.alloc _) ⟨z2.val.heap.size, 0, none⟩ 1 1 [.string ⟨#[10]⟩] rfl rfl (World.news_of_block (heap_alloc_new z2.val _)) (fun u hu => by simp at hu; subst hu; rfl) (by unfold maxLen; simp; omega) (by simp; omega) (by have := HZ.out.below.size; simp; omega) ?_
                intro v4 w4 hown hgr _
                have HJ := hide (JoinSt.append HZ.out ((Below.refl _ _).alloc (Nat.le_refl _) _) hown hgr)
                rw [show (l.take k).map tokB ++ [⟨#[10]⟩] = (l.take (k + 1)).map tokB by rw [List.take_add_one, HT.out]; simp [tokB, show t.kind = 4 by simpa using hk4]] at HJ
                clear hown hgr HZ
                go_wp2
                exact ⟨⟨k + 1, by go_num, by omega, HJ⟩, by simp [intOf]; omega⟩
            · have d5 : decide (t.line < t'.line) = false := by rw [decide_eq_false_iff_not]; omega
              have d6 : (t.line == t'.line) = true := by rw [beq_iff_eq]; omega
              have d7 : decide (t.col ≤ t'.col) = false := by rw [decide_eq_false_iff_not]; omega
              clear ht'
              rw [YR]
              refine wp_region_after (After.refl W4.heap.size W4) (by kernel_rfl) (by kernel_rfl) ?_
              repeat (go_big_quiet_step (fail))
              refine wpQuiet_nil ?_
              intro z
              clear d1 d2 d5 d6 d7 b2 b3 dk
              go_wp2_with fail
              have d3 : decide (t.col < 1) = false := by rw [decide_eq_false_iff_not]; omega
              have d4 : decide ((B.size : Int) + 1 < t.col) = false := by rw [decide_eq_false_iff_not]; omega
              refine wp_region_after z (by kernel_rfl) (by kernel_rfl) ?_
              repeat (go_big_quiet_step ((go_at_call 28; exact Gives.after (Nat.le_refl _) (KH.out _))))
              refine wpQuiet_nil ?_
              intro z2
              clear d3 d4
              have HZ := hide (hst.out.to ((HWW.out.2.2).trans (z2.below.mono (by have := HWW.out.2.1; omega))))
              cases hk4 : (t.kind == 4)
              · go_wp2_with (at_builtin; refine Hid.out ?_)
                refine Lib.hid ?_
                refine wpList_append_own _ rfl _ _ 53 rfl w3.heap.size 9 i9 _ 1 16 Tryd.underlying53 HI.out.1 HI.out.2.1 HI.out.2.2.1 HI.out.2.2.2 rfl (by decide) _ _ _ rfl (HZ.out.own.alloc _) ⟨z2.val.heap.size, 0, none⟩ 1 1 [.string t.text] rfl rfl (World.news_of_block (heap_alloc_new z2.val _)) (fun u hu => by simp at hu; subst hu; rfl) (by unfold maxLen; simp; omega) (by simp; omega) (by have := HZ.out.below.size; simp; omega) ?_
                intro v4 w4 hown hgr _
                have HJ := hide (JoinSt.append HZ.out ((Below.refl _ _).alloc (Nat.le_refl _) _) hown hgr)
                rw [show (l.take k).map tokB ++ [t.text] = (l.take (k + 1)).map tokB by rw [List.take_add_one, HT.out]; simp [tokB, show ¬ t.kind = 4 by simpa using hk4]] at HJ
                clear hown hgr HZ
                go_wp2
                exact ⟨⟨k + 1, by go_num, by omega, HJ⟩, by simp [intOf]; omega⟩
              · go_wp2_with (at_builtin; refine Hid.out ?_)
                refine Lib.hid ?_
                refine wpList_append_own _ rfl _ _ 53 rfl w3.heap.size 9 i9 _ 1 16 Tryd.underlying53 HI.out.1 HI.out.2.1 HI.out.2.2.1 HI.out.2.2.2 rfl (by decide) _ _ _ rfl (HZ.out.own.alloc _) ⟨z2.val.heap.size, 0, none⟩ 1 1 [.string ⟨#[10]⟩] rfl rfl (World.news_of_block (heap_alloc_new z2.val _)) (fun u hu => by simp at hu; subst hu; rfl) (by unfold maxLen; simp; omega) (by simp; omega) (by have := HZ.out.below.size; simp; omega) ?_
                intro v4 w4 hown hgr _
                have HJ := hide (JoinSt.append HZ.out ((Below.refl _ _).alloc (Nat.le_refl _) _) hown hgr)
                rw [show (l.take k).map tokB ++ [⟨#[10]⟩] = (l.take (k + 1)).map tokB by rw [List.take_add_one, HT.out]; simp [tokB, show t.kind = 4 by simpa using hk4]] at HJ
                clear hown hgr HZ
                go_wp2
                exact ⟨⟨k + 1, by go_num, by omega, HJ⟩, by simp [intOf]; omega⟩
        · have hst' := hst.out
          rw [show k = N by omega, HN.out, List.take_length] at hst'
          have hown := hst'.own
          have hxl : (l.map tokB).length = N := by rw [List.length_map, HN.out]
          rcases hown.2 with ⟨_, h0⟩ | ⟨gb, cb, cur, hbv, hgb, hcur, hcap, _, _, _⟩
          · omega
          · subst hbv
            have hlt2 : gb < x.val.heap.size := (Array.getElem?_eq_some_iff.1 hcur).1
            have hcells : ∀ (j : Nat) (y : ByteArray), (l.map tokB)[j]? = some y → x.val.cell? ⟨gb, 0 + j, none⟩ = some (.string y) := fun j y hy => by
              have h1 := World.ownsRow.cells hown rfl j (.string y) (by rw [List.getElem?_map, hy]; rfl)
              have hadd : (⟨gb, 0, none⟩ : Addr).add j = ⟨gb, 0 + j, none⟩ := by unfold Addr.add; split <;> simp_all
              rwa [hadd] at h1
            have KJ := hide (by have := Tryd.strings_Join gb 0 cb (l.map tokB) ⟨#[32]⟩ x.val hcells hlt2 (by omega) (by omega) (by show (Lib.join _ [32]).length ≤ _; rw [joined_lib]; omega); rw [show (⟨#[32]⟩ : ByteArray).data.toList = [32] from rfl, joined_lib, hxl] at this; exact this)
            have HX := hide (show (l.map tokB).length = N from hxl)
            have HXB := hide hst'.below
            obtain ⟨g', hge, hg, _⟩ := HS3.out HZ5.out.1
            obtain rfl : g = g' := by simpa using hge
            clear hst' hown hcells hcur hge
            rw [HX.out]
            go_wp2_with fail
            refine KJ.out.mono ?_
            rintro e w4 ⟨rfl, hb4⟩
            have HB4 := hide hb4
            clear hb4
            go_wp2_with fail
            refine (K5.out w4).mono ?_
            rintro e w5 ⟨hb5, v5, rfl, hown5⟩
            obtain ⟨A5, c5, rfl, hsl5⟩ := TokSl.of_owns hown5
            obtain ⟨W5, hW5, hWs5, hWb5, hWh5⟩ := boxed w5 (.cells #[.int .i64 0, .int .i64 0] 38)
            have HB5 := hide (show Below w3.heap.size w3 W5 from (HXB.out.trans (HB4.out.mono HXB.out.size)).trans ((hb5.trans (hWb5.mono hb5.size)).mono (by have := HXB.out.size; have := HB4.out.size; omega)))
            have KE := hide (by have := Gives.first (sameToks_any l m HBR.out (by rw [← HN.out]; omega) (some ⟨g, 0, none⟩) A5 c2 c5 W5 (HS3.out.to HB5.out (HB5.out.size)) (hsl5.to hWb5 (by omega))); rw [← HN.out] at this; exact this)
            have HW5 := hide hW5
            clear hW5 hWs5 hWb5 hWh5 hsl5 hown5 hb5
            go_wp2_with fail
            rw [← HW5.out]
            refine KE.out.mono ?_
            rintro e w6 ⟨rfl, y6, rfl⟩
            go_wp2
            go_ret
            exact Gives.mk rfl (HB3.out.trans ((HB5.out.trans (y6.below.mono HB5.out.size)).mono HB3.out.size))
end Go.Proofs.YtplblogdgbnbdaaDoor
