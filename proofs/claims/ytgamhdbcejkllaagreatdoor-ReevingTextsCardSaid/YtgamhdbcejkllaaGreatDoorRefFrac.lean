/- loftblockref02.Parse: the fraction that a word is the text of. -/
import Derived.Test.YtgamhdbcejkllaaGreatDoorRefInt
namespace Go.Proofs.YtgamhdbcejkllaaGreatDoor
open Go.RowKit

/-- a fraction, and whether the word is its text -/
def FracB (w : World) (s : ByteArray) (e : Ending) (w' : World) : Prop :=
  ∃ n d ok, e = .returned (.tuple #[.agg #[.int .i64 n, .int .i64 d], .bool ok]) ∧ Below w.heap.size w w' ∧ fracE fracOk (bs s) = if ok = true then some (n, d) else none
/-- what the word says, by a number with its sign, a denominator, and whether both are numerals -/
def FracIs (s : ByteArray) (ok : Bool) (x d : Int) : Prop := fracE fracOk (bs s) = if ok = true ∧ fracOk x d = true ∧ fracL x d = bs s then some (x, d) else none
theorem fracIs_whole {s : ByteArray} {neg : Bool} {a : List UInt8} {v : Int} (hw : bs s = sgT neg ++ a) (ha : ∀ c ∈ a, c ≠ 47) (hn : neg = false → a.head? ≠ some 45) (hv : natOk a = true → v = valN 0 a) : FracIs s (natOk a) (if neg then -v else v) 1 := by
  have h := fracE_ref_whole fracBound ha hn
  rw [← hw] at h
  unfold FracIs
  rw [h]
  by_cases hok : natOk a = true
  · have : (if neg then -v else v) = sgn neg (valN 0 a) := by rw [hv hok]; rfl
    rw [this]
  · rw [if_neg (fun h => hok h.1), if_neg (fun h => hok h.1)]
theorem fracIs_cut {s : ByteArray} {neg : Bool} {a b : List UInt8} {v d : Int} (hw : bs s = sgT neg ++ (a ++ 47 :: b)) (ha : ∀ c ∈ a, c ≠ 47) (hn : neg = false → a.head? ≠ some 45) (hv : natOk a = true → v = valN 0 a) (hd : natOk b = true → d = valN 0 b) :
    FracIs s (natOk a && natOk b) (if neg then -v else v) d := by
  have h := fracE_ref_cut (b := b) fracBound ha hn
  rw [← hw] at h
  unfold FracIs
  rw [h]
  by_cases hok : natOk a = true ∧ natOk b = true
  · have : (if neg then -v else v) = sgn neg (valN 0 a) := by rw [hv hok.1]; rfl
    rw [this, hd hok.2]
    simp only [Bool.and_eq_true]
  · rw [if_neg (fun h => hok h.1), if_neg (fun h => hok (by simpa using h.1))]
/-- the first slash before place i, or the text's end -/
def SlashAt (a : List UInt8) (p i : Nat) : Prop := (p = a.length ∧ ∀ j c, j < i → a[j]? = some c → c ≠ 47) ∨ (p < i ∧ a[p]? = some 47 ∧ ∀ j c, j < p → a[j]? = some c → c ≠ 47)
theorem SlashAt.le {a : List UInt8} {p i : Nat} (h : SlashAt a p i) : p ≤ a.length := by
  rcases h with ⟨h, _⟩ | ⟨_, h, _⟩
  · omega
  · exact Nat.le_of_lt (List.getElem?_eq_some_iff.1 h).1
theorem SlashAt.start (a : List UInt8) : SlashAt a a.length 0 := Or.inl ⟨rfl, fun j c h => absurd h (by omega)⟩
theorem SlashAt.here {a : List UInt8} {i : Nat} (h : SlashAt a a.length i) (hc : a[i]? = some 47) : SlashAt a i (i + 1) := by
  rcases h with ⟨_, h⟩ | ⟨_, h, _⟩
  · exact Or.inr ⟨by omega, hc, h⟩
  · rw [List.getElem?_eq_none (Nat.le_refl _)] at h; cases h
theorem SlashAt.next {a : List UInt8} {p i : Nat} {c : UInt8} (h : SlashAt a p i) (hc : a[i]? = some c) (hn : c ≠ 47 ∨ p ≠ a.length) : SlashAt a p (i + 1) := by
  rcases h with ⟨h1, h2⟩ | ⟨h1, h2⟩
  · refine Or.inl ⟨h1, fun j d hj hd => ?_⟩
    by_cases e : j = i
    · subst e; rw [hc] at hd; injection hd with hd; rw [← hd]; exact hn.resolve_right (fun h => h h1)
    · exact h2 j d (by omega) hd
  · exact Or.inr ⟨by omega, h2⟩
theorem SlashAt.none_ {a : List UInt8} (h : SlashAt a a.length a.length) : ∀ c ∈ a, c ≠ 47 := fun c hc => by
  obtain ⟨j, hj, e⟩ := List.getElem_of_mem hc
  rcases h with ⟨_, h⟩ | ⟨h, _⟩
  · exact h j c hj (by rw [List.getElem?_eq_getElem hj, e])
  · omega
theorem SlashAt.some_ {a : List UInt8} {p : Nat} (h : SlashAt a p a.length) (hp : p < a.length) : a = a.take p ++ 47 :: a.drop (p + 1) ∧ ∀ c ∈ a.take p, c ≠ 47 := by
  rcases h with ⟨h, _⟩ | ⟨_, h, h2⟩
  · omega
  · obtain ⟨hlt, e⟩ := List.getElem?_eq_some_iff.1 h
    refine ⟨?_, fun c hc => ?_⟩
    · conv => lhs; rw [← List.take_append_drop p a, List.drop_eq_getElem_cons hlt, e]
    · obtain ⟨j, hj, e2⟩ := List.getElem_of_mem hc
      rw [List.length_take] at hj
      exact h2 j c (by omega) (by rw [List.getElem?_eq_getElem (by omega), ← e2, List.getElem_take])
theorem head_take {a : List UInt8} {p : Nat} (h : a.head? ≠ some 45) : (a.take p).head? ≠ some 45 := fun e => h (by
  cases p with
  | zero => simp at e
  | succ p => cases a with
    | nil => simp at e
    | cons c a => simpa using e)
set_option maxRecDepth 100000 in
set_option maxHeartbeats 8000000 in
theorem refFracParse_any (s : ByteArray) (hs : s.size ≤ 1000000) (w : World) : Calls Tryz.prog 63 #[.string s] w (FracB w s) := by
  obtain ⟨neg, a, hw, hn, hiff⟩ := sign_apart (bs s)
  have hlen : s.size = (if neg then 1 else 0) + a.length := by
    rw [← bs_length, hw, List.length_append, sgT_length]
  obtain ⟨W, hW, hWs, hWb, hWh⟩ := boxed w (.cells #[.int .i64 0, .int .i64 0] 55)
  have hlt : w.heap.size < W.heap.size := by omega
  have KN := hide fun (t : ByteArray) (ht : t.size ≤ 1000000) (y : After W.heap.size W) => refNat_any t ht y.val
  have hRc := fun z : After W.heap.size W => (z.below.block _ hlt).trans hWh
  have hRd := fun z : After W.heap.size W => two_cells (hRc z)
  have hset := fun (z : After W.heap.size W) (p q : Value) => two_cells (two_set (c := p) (d := q) (hRc z))
  have hfz := fun (z : After W.heap.size W) i => block_unfrozen (hRc z) i
  have hfz1 := fun (z : After W.heap.size W) p i => block_unfrozen (block_set (hRc z) (i := 0) p) i
  have HF : Hid (∀ (z : After W.heap.size W) (p q : Value), Below w.heap.size w ((z.val.setCell ⟨w.heap.size, 0, none⟩ p).setCell ⟨w.heap.size, 1, none⟩ q)) := hide fun z p q =>
    ((hWb.trans (z.below.mono (by omega))).setCell (p := ⟨w.heap.size, 0, none⟩) (Nat.le_refl _) _).setCell (p := ⟨w.heap.size, 1, none⟩) (Nat.le_refl _) _
  have HRS := hide fun (z : After W.heap.size W) => And.intro (hRd z) (And.intro (hset z) (And.intro (hfz z) (hfz1 z)))
  have HW := hide hW
  have HBW := hide (show s = s.extract 0 s.size by rw [ByteArray.extract_zero_size])
  -- the text behind the sign
  obtain ⟨t, ht⟩ : ∃ t, t = if neg then s.extract 1 s.size else s := ⟨_, rfl⟩
  have hta : bs t = a := by
    rw [ht]
    cases neg
    · simpa [sgT] using hw
    · rw [if_pos rfl, bs_extract, hw]
      rw [List.take_of_length_le (by rw [List.length_drop, List.length_append]; simp [sgT] at hlen ⊢; omega)]
      rfl
  have hts : t.size = a.length := by rw [← bs_length, hta]
  have HBY := hide (fun k (h : k < t.size) => bs_get t k h)
  have htl : t.size ≤ 1000000 := by rw [hts]; omega
  obtain ⟨e0, he0⟩ : ∃ b : Bool, decide (0 < s.size) = b := ⟨_, rfl⟩
  clear hW hWs hWb hWh hRc hRd hset hfz hfz1
  have hfirst : (s.size = 0 ∧ neg = false) ∨ ∃ h : 0 < s.size, ((s[0].toNat : Int) == 45) = neg := by
    rcases Nat.eq_zero_or_pos s.size with h0 | h0
    · refine Or.inl ⟨h0, ?_⟩
      cases neg
      · rfl
      · simp at hlen; omega
    · refine Or.inr ⟨h0, ?_⟩
      have hh : (bs s).head? = some s[0] := by rw [List.head?_eq_getElem?]; exact bs_get s 0 h0
      rw [hh] at hiff
      cases neg
      · rw [beq_eq_false_iff_ne]
        intro e
        have : s[0] = 45 := UInt8.toNat_inj.1 (by have : s[0].toNat = 45 := by omega
                                                  rw [this]; rfl)
        exact absurd (hiff.2 (by rw [this])) (by simp)
      · have := hiff.1 rfl
        injection this with this
        rw [this]; rfl
  have HTA := hide hta
  have HTS := hide hts
  have HSW := hide hw
  have HN := hide hn
  have HLEN := hide hlen
  clear hiff he0 hw hn hts hlen hta
  go_enter Tryz.func63, Tryz.ntmps63
  go_upto_region 2 with fail
  rw [← HW.out]
  go_cut [5] (fun x wx => x = .bool neg ∧ wx = W)
  case first =>
    rcases hfirst with ⟨h0, rfl⟩ | ⟨h0, hq⟩
    · have h00 : ¬ (0 : Int) < (s.size : Int) := by omega
      clear h0
      go_wp2_with fail
      go_meet
      exact ⟨rfl, rfl⟩
    · have hi1 : (0 : Int) < (s.size : Int) := by omega
      go_wp2_with fail
      go_meet
      exact ⟨by first | rfl | rw [← hq], rfl⟩
  case rest =>
  obtain ⟨rfl, rfl⟩ := hcut
  clear hfirst
  go_upto_if 22 with fail
  go_cut [4] (fun x wx => x = .string t ∧ wx = wc)
  case first =>
    cases neg
    · have HT := hide ht
      clear ht
      go_wp2_with fail
      go_meet
      exact ⟨by rw [HT.out]; rfl, rfl⟩
    · have HT := hide ht
      have h1 : (1 : Int) ≤ (s.size : Int) := by have := HLEN.out; simp at this; omega
      clear ht
      go_wp2_with fail
      go_meet
      exact ⟨by rw [HT.out]; rfl, rfl⟩
  case rest =>
  obtain ⟨rfl, hwc⟩ := hcut
  subst hwc
  clear ht
  go_wp2_with fail
  go_loopw [6, 7] (fun x y wr => ∃ (p k : Nat), x = .int .i64 p ∧ y = .int .i64 k ∧ k ≤ t.size ∧ Hid (SlashAt a p k) ∧ wr = wc) (fun _ y _ => t.size - (intOf y).toNat)
  case atStart => exact ⟨t.size, 0, rfl, rfl, Nat.zero_le _, hide (by rw [HTS.out]; exact SlashAt.start a), rfl⟩
  case round =>
    obtain ⟨p, k, rfl, rfl, hk, hsl, rfl⟩ := hrel
    by_cases hlt2 : k < t.size
    · have hx := HBY.out k hlt2
      rw [HTA.out] at hx
      have hi0 : (0 : Int) ≤ (k : Int) := by omega
      have hi1 : (k : Int) < (t.size : Int) := by omega
      obtain ⟨fp, hfp⟩ : ∃ b : Bool, ((p : Int) == (t.size : Int)) = b := ⟨_, rfl⟩
      by_cases h47 : t[k] = 47
      · have hq : ((t[k].toNat : Int) == 47) = true := by rw [h47]; rfl
        rw [h47] at hx
        cases fp
        · have HNX := hide (hsl.out.next hx (Or.inr (by have := HTS.out; simp at hfp; omega)))
          clear h47 hx
          go_wp2_with fail
          exact ⟨⟨p, k + 1, rfl, by go_num, by omega, HNX, trivial⟩, by simp [intOf]; omega⟩
        · have hpe : p = a.length := by have := HTS.out; simp at hfp; omega
          have hsl2 := hsl.out
          rw [hpe] at hsl2
          have HNX := hide (hsl2.here hx)
          clear h47 hx hsl2 hpe
          go_wp2_with fail
          exact ⟨⟨k, k + 1, rfl, by go_num, by omega, HNX, trivial⟩, by simp [intOf]; omega⟩
      · have HNX := hide (hsl.out.next hx (Or.inl h47))
        have hq : ((t[k].toNat : Int) == 47) = false := by
          rw [beq_eq_false_iff_ne]
          intro e
          exact h47 (UInt8.toNat_inj.1 (by have : t[k].toNat = 47 := by omega
                                           rw [this]; rfl))
        clear h47 hx hfp
        go_wp2_with fail
        exact ⟨⟨p, k + 1, rfl, by go_num, by omega, HNX, trivial⟩, by simp [intOf]; omega⟩
    · obtain rfl : k = t.size := by omega
      have hsl2 := hsl.out
      rw [HTS.out] at hsl2
      have HSL := hide hsl2
      have hpl : p ≤ t.size := by rw [HTS.out]; exact hsl2.le
      clear hsl2 hsl
      obtain ⟨t1, ht1⟩ : ∃ t1, t1 = t.extract 0 p := ⟨_, rfl⟩
      have hb1 : bs t1 = a.take p := by rw [ht1, bs_extract, HTA.out]; simp
      have ht1s : t1.size ≤ 1000000 := by
        have := bs_length t1
        rw [hb1, List.length_take] at this
        omega
      have HT1 := hide ht1
      have HB1 := hide hb1
      have hp0 : (0 : Int) ≤ (p : Int) := by omega
      have hp1 : (p : Int) ≤ (t.size : Int) := by omega
      have KN1 := hide (KN.out t1 ht1s (After.refl _ _))
      simp only [After.refl] at KN1
      rw [HT1.out] at KN1
      clear ht1 hb1
      go_wp2_with fail
      refine KN1.out.mono ?_
      rintro e w1 ⟨v, rfl, hvb, hv, hbel⟩
      rw [← HT1.out, HB1.out] at hv
      obtain ⟨y, rfl⟩ := After.exists_iff hbel
      obtain ⟨V, hV, hVs, hVb, hVh⟩ := boxed y.val (.cells #[.int .i64 v, .int .i64 1] 55)
      have HVV := hide hv
      obtain ⟨f, hf⟩ : ∃ f, f = y.val.heap.size := ⟨_, rfl⟩
      rw [← hf] at hVs hVh
      have hwy : wr.heap.size ≤ f := by rw [hf]; exact y.size
      obtain ⟨o1, ho1⟩ : ∃ o, o = natOk (a.take p) := ⟨_, rfl⟩
      have HO1 := hide ho1
      have hrb : bs (t.extract 0 p) = a.take p := by rw [← HT1.out]; exact HB1.out
      rw [hrb, ← ho1]
      have HV := hide hV
      have HVW := hide (show Below wr.heap.size wr V from y.below.trans (hVb.mono y.size))
      have HVH := hide hVh
      have hfV : f < V.heap.size := by omega
      have hfv := fun z : After V.heap.size V => (z.below.block f hfV).trans hVh
      have hfc := fun z : After V.heap.size V => two_cells (hfv z)
      have hfz := fun z : After V.heap.size V => block_unfrozen (hfv z) 1
      have HFV := hide fun (z : After V.heap.size V) (q : Value) => block_set (hfv z) (i := 1) q
      have HSL2 := HSL
      have HFE := hide hf
      clear hv ho1 hV hVb hVh hbel hrb hf
      go_upto_if 56 with fail
      rw [← HV.out, ← HFE.out]
      go_cut [9] (fun x wx => ∃ (okk : Bool) (d : Int), x = .bool okk ∧ wx.heap[f]? = some (.cells #[.int .i64 v, .int .i64 d] 55 (0, 0)) ∧ Hid (0 ≤ d ∧ d ≤ 9223372036854775807) ∧ Below wr.heap.size wr wx ∧ Hid (FracIs s okk (if neg then -v else v) d))
      case first =>
        by_cases hpt : (p : Int) < (t.size : Int)
        · obtain ⟨hc1, hc2⟩ := HSL.out.some_ (by have := HTS.out; omega)
          obtain ⟨t2, ht2⟩ : ∃ t2, t2 = t.extract (p + 1) t.size := ⟨_, rfl⟩
          have hb2 : bs t2 = a.drop (p + 1) := by
            rw [ht2, bs_extract, HTA.out, List.take_of_length_le (by rw [List.length_drop]; have := HTS.out; omega)]
          have ht2s : t2.size ≤ 1000000 := by
            have := bs_length t2
            rw [hb2, List.length_drop] at this
            have := HTS.out
            omega
          have KN2 := hide (KN.out t2 ht2s ⟨V, HVW.out⟩)
          simp only at KN2
          rw [hb2] at KN2
          have HI := hide fun (d : Int) (hd : natOk (a.drop (p + 1)) = true → d = valN 0 (a.drop (p + 1))) =>
            fracIs_cut (s := s) (neg := neg) (a := a.take p) (b := a.drop (p + 1)) (v := v) (d := d) (by rw [← hc1]; exact HSW.out) hc2 (fun h => head_take (HN.out h)) HVV.out hd
          rw [← HO1.out] at HI
          obtain ⟨o2, ho2⟩ : ∃ o, o = natOk (a.drop (p + 1)) := ⟨_, rfl⟩
          rw [← ho2] at KN2 HI
          have HT2 := hide ht2
          have hp2 : (p : Int) + 1 ≤ (t.size : Int) := by omega
          rw [HT2.out] at KN2
          clear hc1 hc2 hb2 ht2 ho2
          go_wp2_with fail
          refine KN2.out.mono ?_
          rintro e w1 ⟨d, rfl, hdb, hd, hbel⟩
          obtain ⟨z, rfl⟩ := After.exists_iff hbel
          have HD := hide hd
          have HDB := hide hdb
          have hfcz := hfc z
          have hfzz := hfz z
          clear hd hbel hfc hfz hfv hdb
          cases o1
          · go_wp2_with fail
            go_meet
            exact ⟨false, d, rfl, HFV.out z _, HDB, ((HVW.out.trans (z.below.mono HVW.out.size)).setCell (p := ⟨f, 1, none⟩) hwy _), hide (HI.out d HD.out)⟩
          · go_wp2_with fail
            go_meet
            exact ⟨o2, d, rfl, HFV.out z _, HDB, ((HVW.out.trans (z.below.mono HVW.out.size)).setCell (p := ⟨f, 1, none⟩) hwy _), hide (HI.out d HD.out)⟩
        · have hpe : p = a.length := by have := HTS.out; omega
          have HI := hide (fracIs_whole (s := s) (neg := neg) (a := a) (v := v) HSW.out (by have h := HSL.out; rw [hpe] at h; exact h.none_) HN.out (by have h := HVV.out; rw [hpe, List.take_length] at h; exact h))
          have h1 : natOk a = o1 := by rw [HO1.out, hpe, List.take_length]
          rw [h1] at HI
          clear h1 hpe hfc hfz hfv
          go_wp2_with fail
          go_meet
          exact ⟨o1, 1, rfl, HVH.out, hide ⟨by omega, by omega⟩, HVW.out, HI⟩
      case rest =>
      obtain ⟨okk, d, rfl, hbox, HDB, hbw, HFI⟩ := hcut
      obtain ⟨x, hx⟩ : ∃ x : Int, x = if neg then -v else v := ⟨_, rfl⟩
      rw [← hx] at HFI
      have hxI : I64 x := by rw [hx]; unfold I64; split <;> omega
      have hdI : I64 d := ⟨by have := HDB.out; omega, by have := HDB.out; omega⟩
      have HX := hide hx
      have HXI := hide hxI
      have HDI := hide hdI
      have hfcz := two_cells hbox
      have hfzz := block_unfrozen hbox 0
      have HST := hide (fun q => block_set hbox (i := 0) q)
      have HBX := hide hbox
      have HBW := hide hbw
      clear hx hbox hfc hfz hfv hbw hxI hdI
      go_upto_if 71 with fail
      go_cut [9] (fun u wx => u = .bool okk ∧ wx.heap[f]? = some (.cells #[.int .i64 x, .int .i64 d] 55 (0, 0)) ∧ Below wr.heap.size wr wx)
      case first =>
        cases neg
        · go_wp2_with fail
          go_meet
          exact ⟨rfl, by rw [HX.out]; exact HBX.out, HBW.out⟩
        · go_wp2_with fail
          go_meet
          exact ⟨rfl, by rw [HX.out]; exact HST.out _, (HBW.out.setCell (p := ⟨f, 0, none⟩) hwy _)⟩
      case rest =>
      obtain ⟨rfl, hbox2, hbw2⟩ := hcut
      clear hfcz hfzz
      have hfl := (Array.getElem?_eq_some_iff.1 hbox2).1
      have hwlt := hbw2.size
      have KV := hide (Gives.first (refFrac_any x d HXI.out HDI.out wc))
      have KT := hide fun (z : After wc.heap.size wc) => Gives.after (x := z) (Nat.le_refl _) (refFracText_any x d HXI.out HDI.out HDB.out.1 z.val)
      have hfU := fun z : After wc.heap.size wc => two_cells ((z.below.block f hfl).trans hbox2)
      have hfU0 := hfU (After.refl _ _)
      simp only [After.refl] at hfU0
      obtain ⟨vo, hvo⟩ : ∃ b, b = fracOk x d := ⟨_, rfl⟩
      obtain ⟨q, hq⟩ : ∃ b, ((fracT x d).toList == s.toList) = b := ⟨_, rfl⟩
      rw [← hvo] at KV
      have hfin : fracE fracOk (bs s) = if (okk && vo && q) = true then some (x, d) else none := by
        rw [HFI.out, ← hvo]
        by_cases h : okk = true ∧ vo = true ∧ fracL x d = bs s
        · have : q = true := by rw [← hq, bs_eq, bs_fracT]; exact h.2.2
          rw [if_pos h, if_pos (by rw [h.1, h.2.1, this]; rfl)]
        · rw [if_neg h, if_neg fun h2 => h (by
            simp only [Bool.and_eq_true] at h2
            refine ⟨h2.1.1, h2.1.2, ?_⟩
            rw [← bs_fracT, ← bs_eq, hq]; exact h2.2)]
      obtain ⟨T, hT⟩ : ∃ T, T = fracT x d := ⟨_, rfl⟩
      rw [← hT] at KT hq
      have hqn : (T.toList != s.toList) = !q := by rw [← hq]; rfl
      have HQ := hide hq
      have HFN := hide hfin
      have HBW2 := hide hbw2
      have HFU := hide hfU
      clear hfin hvo hT hq hbox2 hbw2
      go_upto_region 19 with fail
      go_cut [88] (fun u wx => u = .bool (!(okk && vo && q)) ∧ ∃ z : After wc.heap.size wc, wx = z.val)
      case first =>
        cases okk
        · go_wp2_with fail
          go_meet
          exact ⟨rfl, After.refl _ _, rfl⟩
        · cases vo
          · go_wp2_with (go_at_call 83; refine KV.out.mono ?_; rintro e w1 ⟨rfl, z, rfl⟩)
            go_meet
            exact ⟨rfl, z, rfl⟩
          · go_wp2_with (first
              | (go_at_call 83; refine KV.out.mono ?_; rintro e w1 ⟨rfl, z, rfl⟩; have hz := hfU z)
              | (go_at_call 30; refine (KT.out z).mono ?_; rintro e w1 ⟨rfl, z2, rfl⟩))
            go_meet
            exact ⟨by simp; exact HQ.out, z2, rfl⟩
      case rest =>
      obtain ⟨rfl, z, rfl⟩ := hcut
      have hrs := HRS.out ⟨z.val, HBW2.out.trans (z.below.mono hwlt)⟩
      have hfz := HFU.out z
      have hFF := HF.out ⟨z.val, HBW2.out.trans (z.below.mono hwlt)⟩
      simp only at hrs hFF
      obtain ⟨hr1, hr2, hr3, hr4⟩ := hrs
      have HFF := hide hFF
      clear hfU hfU0 hqn hFF
      cases hgood : (okk && vo && q)
      · have HNN := hide (show fracE fracOk (bs s) = none by rw [HFN.out, hgood]; rfl)
        clear hgood
        go_wp2_with fail
        refine bodyPost_ret (by simp [results, Tryz.results63, go_sem, hr2]; try rfl) rfl ?_
        exact ⟨0, 0, false, rfl, HFF.out _ _, HNN.out⟩
      · have HNN := hide (show fracE fracOk (bs s) = some (x, d) by rw [HFN.out, hgood]; rfl)
        clear hgood
        go_wp2_with fail
        refine bodyPost_ret (by simp [results, Tryz.results63, go_sem, hr2]; try rfl) rfl ?_
        exact ⟨x, d, true, rfl, HFF.out _ _, HNN.out⟩
end Go.Proofs.YtgamhdbcejkllaaGreatDoor
