/- The reader's method line: the ways that call another method. The reader's method line: roofs and pairs, and all ways together. -/
import Derived.Test.YtnjbfhfjdhfdlaaGreatDoorSrcCue
namespace Go.Proofs.YtnjbfhfjdhfdlaaGreatDoor
open Go.RowKit

theorem stmtR_of {h : HouseP} {c : SheetP} {ts r : List TokD} {lw : ByteArray} (hw : takeR 1 stmtWord ts = .ok (lw, r)) : stmtR h c ts = bindR (bodyR h c (bs lw) (posT ts) r) fun x r => bindR (endR r) fun _ r => .ok (x, r) := by rw [stmtR, hw]; rfl
/-- what take leaves of a line's end -/
def EndPost (rb : Nat) (tv : Value) (L : List TokD) (h : HouseP) (c : SheetP) (x : Rd ByteArray) (u : World) (e : Ending) (w' : World) : Prop :=
  Below rb u w' ∧ match x with
    | .ok (s, r) => e = .returned (.string s) ∧ ∃ n, L.drop n = r ∧ RSt rb tv L n h c w'
    | .error q => e = .panicked [{ v := .iface 131 (.agg #[.int .i64 q.1, .int .i64 q.2]), recovered := false }]
theorem end_any {rb n : Nat} {tv : Value} {L : List TokD} {h : HouseP} {c : SheetP} {u : World} (hst : RSt rb tv L n h c u) (hl : Last5 (L.drop n)) (hbig : L.length ≤ 1000000) :
    Calls Tryz.prog 84 #[.pointer (some ⟨rb, 0, none⟩), .int .i64 4, .slice none 0 0] u (EndPost rb tv L h c (endR (L.drop n)) u) := by
  obtain ⟨S, R, C, A, hin, hS, hR, hC, hA⟩ := hst
  refine (take_any hin.rd hl hbig 4 (.slice none 0 0) (fun _ => true) (Or.inl ⟨rfl, rfl⟩)).mono ?_
  rintro e w' ⟨hg, hx⟩
  have hb : Below rb u w' := Below.grown (Below.refl _ _) hg (Nat.le_of_lt hin.rd.lt) (fun k hk => by injection hk with hk; omega)
  refine ⟨hb, ?_⟩
  show match takeR 4 (fun _ => true) (L.drop n) with | .ok (s, r) => _ | .error q => _
  cases ht : takeR 4 (fun _ => true) (L.drop n) with
  | error q => rw [ht] at hx; exact hx
  | ok v =>
    obtain ⟨s, r⟩ := v
    rw [ht] at hx
    obtain ⟨h1, m, h2, h3⟩ := hx
    have e1 := take_less 4 (fun _ => true) _ _ _ ht
    have e2 := congrArg List.length h2
    simp only [List.length_drop] at e1 e2
    exact ⟨h1, m, h2, S, R, C, A, hin.kept hg h3 (by omega), hS, hR, hC, hA⟩
theorem RSt.grown {rb n m : Nat} {tv : Value} {L : List TokD} {h : HouseP} {c : SheetP} {S : Sl SetD} {R : Sl RoofD} {C : Sl CueD} {A : Sl (ByteArray × ByteArray)} {x y : World} (hin : RIn rb tv L n h.name h.height S R C A x) (hS : S.l.map SetD.pl = h.sets) (hR : R.l = h.roofs) (hC : C.l.map CueD.pl = c.cues) (hA : A.l = c.apart) (hg : x.grownBy y (some rb)) (hr : Rd0 rb tv L m (memRest h.name h.height S R C A) y) (hnm : n ≤ m) : RSt rb tv L m h c y :=
  ⟨S, R, C, A, hin.kept hg hr hnm, hS, hR, hC, hA⟩
/-- the place of the next token -/
theorem drop_next {L r : List TokD} {n m : Nat} {t : TokD} (h : L.drop n = t :: r) (h2 : L.drop m = r) (hl : Last5 r) : m = n + 1 := by
  have e1 := congrArg List.length h
  have e2 := congrArg List.length h2
  have e3 : r.length ≠ 0 := fun e => hl.ne (List.eq_nil_of_length_eq_zero e)
  simp only [List.length_drop, List.length_cons] at e1 e2
  omega
set_option maxRecDepth 100000 in
set_option maxHeartbeats 8000000 in
theorem line_set {rb n : Nat} {tv : Value} {L : List TokD} {h0 : HouseP} {c0 : SheetP} {u w0 : World} (h : RSt rb tv L n h0 c0 u) (hl : Last5 (L.drop n)) (hbig : L.length ≤ 1000000) (hts : ∀ t ∈ L, t.text.size ≤ 1000000) (hc : Ctx w0 rb u) {lw : ByteArray} {r : List TokD} (hw : takeR 1 stmtWord (L.drop n) = .ok (lw, r)) (hlw : bs lw = wSet) :
    Calls Tryz.prog 88 #[.pointer (some ⟨rb, 0, none⟩)] u (StPost rb tv L (stmtR h0 c0 (L.drop n)) u) := by
  obtain ⟨S, R, C, A, hin, hS, hR, hC, hA⟩ := h
  obtain ⟨t, rr, htr, htg, htn, hnl⟩ := hl.head
  have hrr : r = rr ∧ t.kind = 1 := by
    rw [htr] at hw
    simp only [takeR] at hw
    split at hw
    · rename_i hk
      simp only [Except.ok.injEq, Prod.mk.injEq] at hw
      exact ⟨hw.2.symm, hk.1⟩
    · cases hw
  obtain ⟨hrr, htk⟩ := hrr
  have htk5 : t.kind ≠ 5 := by omega
  subst hrr
  have HE := hide (stmtR_of (h := h0) (c := c0) hw)
  have HW := hide hw
  have hl1 : Last5 r := Last5.tail (htr ▸ hl) htk5
  have HL1 := hide hl1
  have HIN := hide hin
  have HC := hide hc
  have hrbl := hin.rd.lt
  obtain ⟨U, hU, hUs, hUb, hUh⟩ := boxed u (.cells #[.string ⟨#[114, 111, 111, 102]⟩, .string ⟨#[115, 101, 116]⟩, .string ⟨#[105, 116, 101, 109]⟩, .string ⟨#[98, 114, 105, 99, 107]⟩, .string ⟨#[99, 117, 101]⟩, .string ⟨#[109, 111, 118, 101]⟩, .string ⟨#[97, 112, 97, 114, 116]⟩] 9)
  have KT := hide (take_any (hin.rd.more hUb) hl hbig 1 _ stmtWord (texts_of stmtTexts (by decide) (by decide) hUh stmtWord stmt_texts 7))
  have HUG := hide (grown_of_below (g := some rb) hUb)
  have HTR := hide htr
  have HTG := hide htg
  have HLL := hide hl
  have HU := hide hU
  clear hc hin hU hUs hUb hUh hw htr htg htn hl hl1
  go_enter Tryz.func88, Tryz.ntmps88
  go_wp2_with fail
  rw [← HU.out]
  refine KT.out.mono ?_
  rintro e w2 ⟨hg2, hx⟩
  rw [HW.out] at hx
  obtain ⟨rfl, m2, h2, h3⟩ := hx
  obtain rfl := drop_next HTR.out h2 HL1.out
  have HG2 := hide (grown_trans HUG.out hg2)
  have HST := hide (RSt.grown HIN.out hS hR hC hA HG2.out h3 (by omega))
  have HC2 := hide (HC.out.grown HG2.out)
  have HD2 := hide h2
  have HRD := hide h3
  clear hg2 h2 h3 KT HUG HU
  have hlt : lw.toList = [115, 101, 116] := hlw
  have q0 : (lw.toList == [114, 111, 111, 102]) = false := by rw [hlt]; rfl
  have q1 : (lw.toList == [115, 101, 116]) = true := by rw [hlt]; rfl
  clear hlt
  have KS := hide (set_any HST.out (posT (L.drop n)) (by rw [HD2.out]; exact HL1.out) hbig hts HC2.out)
  rw [HD2.out, ← hlw] at KS
  go_wp2_with fail
  refine KS.out.mono ?_
  rintro e w3 ⟨hb3, hx3⟩
  have hb0 := (Below.grown (Below.refl rb u) HG2.out (Nat.le_of_lt hrbl) (fun k hk => by injection hk with hk; omega)).trans hb3
  have HB3 := hide hb0
  have hgd := body_gd h0 c0 (bs lw) r (show posT (L.drop n) = (t.line, t.col) by rw [HTR.out]; rfl) htk5 (HTR.out ▸ HLL.out)
  cases hbd : bodyR h0 c0 (bs lw) (posT (L.drop n)) r with
  | error q =>
    rw [hbd] at hx3
    simp only at hx3
    subst hx3
    refine ⟨rfl, HB3.out, ?_⟩
    rw [HE.out, hbd]
    rfl
  | ok v =>
    obtain ⟨⟨h1, c1⟩, r3⟩ := v
    rw [hbd] at hx3 hgd
    obtain ⟨rfl, m3, hd3, hst3⟩ := hx3
    have KE := hide (end_any hst3 (by rw [hd3]; exact hgd.2) hbig)
    rw [hd3] at KE
    have HEND := hide (HE.out.trans (by rw [hbd]; rfl : _ = bindR (endR r3) fun _ r => .ok ((h1, c1), r)))
    clear hgd hbd hd3 hst3 hb3 hb0 KS
    go_wp2_with fail
    refine KE.out.mono ?_
    rintro e w4 ⟨hb4, hx4⟩
    have HB4 := hide (HB3.out.trans hb4)
    cases hen : endR r3 with
    | error q =>
      rw [hen] at hx4
      simp only at hx4
      subst hx4
      refine ⟨rfl, HB4.out, ?_⟩
      rw [HEND.out, hen]
      rfl
    | ok v =>
      obtain ⟨s, r4⟩ := v
      rw [hen] at hx4
      obtain ⟨rfl, m4, hd4, hst4⟩ := hx4
      clear KE
      go_wp2_with fail
      go_end0
      refine ⟨HB4.out, ?_⟩
      rw [HEND.out, hen]
      exact ⟨rfl, m4, hd4, hst4⟩
set_option maxRecDepth 100000 in
set_option maxHeartbeats 8000000 in
theorem line_item {rb n : Nat} {tv : Value} {L : List TokD} {h0 : HouseP} {c0 : SheetP} {u w0 : World} (h : RSt rb tv L n h0 c0 u) (hl : Last5 (L.drop n)) (hbig : L.length ≤ 1000000) (hts : ∀ t ∈ L, t.text.size ≤ 1000000) (hc : Ctx w0 rb u) {lw : ByteArray} {r : List TokD} (hw : takeR 1 stmtWord (L.drop n) = .ok (lw, r)) (hlw : bs lw = wItem) :
    Calls Tryz.prog 88 #[.pointer (some ⟨rb, 0, none⟩)] u (StPost rb tv L (stmtR h0 c0 (L.drop n)) u) := by
  obtain ⟨S, R, C, A, hin, hS, hR, hC, hA⟩ := h
  obtain ⟨t, rr, htr, htg, htn, hnl⟩ := hl.head
  have hrr : r = rr ∧ t.kind = 1 := by
    rw [htr] at hw
    simp only [takeR] at hw
    split at hw
    · rename_i hk
      simp only [Except.ok.injEq, Prod.mk.injEq] at hw
      exact ⟨hw.2.symm, hk.1⟩
    · cases hw
  obtain ⟨hrr, htk⟩ := hrr
  have htk5 : t.kind ≠ 5 := by omega
  subst hrr
  have HE := hide (stmtR_of (h := h0) (c := c0) hw)
  have HW := hide hw
  have hl1 : Last5 r := Last5.tail (htr ▸ hl) htk5
  have HL1 := hide hl1
  have HIN := hide hin
  have HC := hide hc
  have hrbl := hin.rd.lt
  obtain ⟨U, hU, hUs, hUb, hUh⟩ := boxed u (.cells #[.string ⟨#[114, 111, 111, 102]⟩, .string ⟨#[115, 101, 116]⟩, .string ⟨#[105, 116, 101, 109]⟩, .string ⟨#[98, 114, 105, 99, 107]⟩, .string ⟨#[99, 117, 101]⟩, .string ⟨#[109, 111, 118, 101]⟩, .string ⟨#[97, 112, 97, 114, 116]⟩] 9)
  have KT := hide (take_any (hin.rd.more hUb) hl hbig 1 _ stmtWord (texts_of stmtTexts (by decide) (by decide) hUh stmtWord stmt_texts 7))
  have HUG := hide (grown_of_below (g := some rb) hUb)
  have HTR := hide htr
  have HTG := hide htg
  have HLL := hide hl
  have HU := hide hU
  clear hc hin hU hUs hUb hUh hw htr htg htn hl hl1
  go_enter Tryz.func88, Tryz.ntmps88
  go_wp2_with fail
  rw [← HU.out]
  refine KT.out.mono ?_
  rintro e w2 ⟨hg2, hx⟩
  rw [HW.out] at hx
  obtain ⟨rfl, m2, h2, h3⟩ := hx
  obtain rfl := drop_next HTR.out h2 HL1.out
  have HG2 := hide (grown_trans HUG.out hg2)
  have HST := hide (RSt.grown HIN.out hS hR hC hA HG2.out h3 (by omega))
  have HC2 := hide (HC.out.grown HG2.out)
  have HD2 := hide h2
  have HRD := hide h3
  clear hg2 h2 h3 KT HUG HU
  have hlt : lw.toList = [105, 116, 101, 109] := hlw
  have q0 : (lw.toList == [114, 111, 111, 102]) = false := by rw [hlt]; rfl
  have q1 : (lw.toList == [115, 101, 116]) = false := by rw [hlt]; rfl
  have q2 : (lw.toList == [105, 116, 101, 109]) = true := by rw [hlt]; rfl
  clear hlt
  have KS := hide (item_any HST.out HTG.out (by rw [HD2.out]; exact HL1.out) hbig hts HC2.out)
  rw [show ((t.line, t.col) : Int × Int) = posT (L.drop n) by rw [HTR.out]; rfl] at KS
  rw [HD2.out, ← hlw] at KS
  go_wp2_with fail
  refine KS.out.mono ?_
  rintro e w3 ⟨hb3, hx3⟩
  have hb0 := (Below.grown (Below.refl rb u) HG2.out (Nat.le_of_lt hrbl) (fun k hk => by injection hk with hk; omega)).trans hb3
  have HB3 := hide hb0
  have hgd := body_gd h0 c0 (bs lw) r (show posT (L.drop n) = (t.line, t.col) by rw [HTR.out]; rfl) htk5 (HTR.out ▸ HLL.out)
  cases hbd : bodyR h0 c0 (bs lw) (posT (L.drop n)) r with
  | error q =>
    rw [hbd] at hx3
    simp only at hx3
    subst hx3
    refine ⟨rfl, HB3.out, ?_⟩
    rw [HE.out, hbd]
    rfl
  | ok v =>
    obtain ⟨⟨h1, c1⟩, r3⟩ := v
    rw [hbd] at hx3 hgd
    obtain ⟨rfl, m3, hd3, hst3⟩ := hx3
    have KE := hide (end_any hst3 (by rw [hd3]; exact hgd.2) hbig)
    rw [hd3] at KE
    have HEND := hide (HE.out.trans (by rw [hbd]; rfl : _ = bindR (endR r3) fun _ r => .ok ((h1, c1), r)))
    clear hgd hbd hd3 hst3 hb3 hb0 KS
    go_wp2_with fail
    refine KE.out.mono ?_
    rintro e w4 ⟨hb4, hx4⟩
    have HB4 := hide (HB3.out.trans hb4)
    cases hen : endR r3 with
    | error q =>
      rw [hen] at hx4
      simp only at hx4
      subst hx4
      refine ⟨rfl, HB4.out, ?_⟩
      rw [HEND.out, hen]
      rfl
    | ok v =>
      obtain ⟨s, r4⟩ := v
      rw [hen] at hx4
      obtain ⟨rfl, m4, hd4, hst4⟩ := hx4
      clear KE
      go_wp2_with fail
      go_end0
      refine ⟨HB4.out, ?_⟩
      rw [HEND.out, hen]
      exact ⟨rfl, m4, hd4, hst4⟩
set_option maxRecDepth 100000 in
set_option maxHeartbeats 8000000 in
theorem line_brick {rb n : Nat} {tv : Value} {L : List TokD} {h0 : HouseP} {c0 : SheetP} {u w0 : World} (h : RSt rb tv L n h0 c0 u) (hl : Last5 (L.drop n)) (hbig : L.length ≤ 1000000) (hts : ∀ t ∈ L, t.text.size ≤ 1000000) (hc : Ctx w0 rb u) {lw : ByteArray} {r : List TokD} (hw : takeR 1 stmtWord (L.drop n) = .ok (lw, r)) (hlw : bs lw = wBrick) :
    Calls Tryz.prog 88 #[.pointer (some ⟨rb, 0, none⟩)] u (StPost rb tv L (stmtR h0 c0 (L.drop n)) u) := by
  obtain ⟨S, R, C, A, hin, hS, hR, hC, hA⟩ := h
  obtain ⟨t, rr, htr, htg, htn, hnl⟩ := hl.head
  have hrr : r = rr ∧ t.kind = 1 := by
    rw [htr] at hw
    simp only [takeR] at hw
    split at hw
    · rename_i hk
      simp only [Except.ok.injEq, Prod.mk.injEq] at hw
      exact ⟨hw.2.symm, hk.1⟩
    · cases hw
  obtain ⟨hrr, htk⟩ := hrr
  have htk5 : t.kind ≠ 5 := by omega
  subst hrr
  have HE := hide (stmtR_of (h := h0) (c := c0) hw)
  have HW := hide hw
  have hl1 : Last5 r := Last5.tail (htr ▸ hl) htk5
  have HL1 := hide hl1
  have HIN := hide hin
  have HC := hide hc
  have hrbl := hin.rd.lt
  obtain ⟨U, hU, hUs, hUb, hUh⟩ := boxed u (.cells #[.string ⟨#[114, 111, 111, 102]⟩, .string ⟨#[115, 101, 116]⟩, .string ⟨#[105, 116, 101, 109]⟩, .string ⟨#[98, 114, 105, 99, 107]⟩, .string ⟨#[99, 117, 101]⟩, .string ⟨#[109, 111, 118, 101]⟩, .string ⟨#[97, 112, 97, 114, 116]⟩] 9)
  have KT := hide (take_any (hin.rd.more hUb) hl hbig 1 _ stmtWord (texts_of stmtTexts (by decide) (by decide) hUh stmtWord stmt_texts 7))
  have HUG := hide (grown_of_below (g := some rb) hUb)
  have HTR := hide htr
  have HTG := hide htg
  have HLL := hide hl
  have HU := hide hU
  clear hc hin hU hUs hUb hUh hw htr htg htn hl hl1
  go_enter Tryz.func88, Tryz.ntmps88
  go_wp2_with fail
  rw [← HU.out]
  refine KT.out.mono ?_
  rintro e w2 ⟨hg2, hx⟩
  rw [HW.out] at hx
  obtain ⟨rfl, m2, h2, h3⟩ := hx
  obtain rfl := drop_next HTR.out h2 HL1.out
  have HG2 := hide (grown_trans HUG.out hg2)
  have HST := hide (RSt.grown HIN.out hS hR hC hA HG2.out h3 (by omega))
  have HC2 := hide (HC.out.grown HG2.out)
  have HD2 := hide h2
  have HRD := hide h3
  clear hg2 h2 h3 KT HUG HU
  have hlt : lw.toList = [98, 114, 105, 99, 107] := hlw
  have q0 : (lw.toList == [114, 111, 111, 102]) = false := by rw [hlt]; rfl
  have q1 : (lw.toList == [115, 101, 116]) = false := by rw [hlt]; rfl
  have q2 : (lw.toList == [105, 116, 101, 109]) = false := by rw [hlt]; rfl
  have q3 : (lw.toList == [98, 114, 105, 99, 107]) = true := by rw [hlt]; rfl
  clear hlt
  have KS := hide (brick_any HST.out HTG.out (by rw [HD2.out]; exact HL1.out) hbig hts HC2.out)
  rw [show ((t.line, t.col) : Int × Int) = posT (L.drop n) by rw [HTR.out]; rfl] at KS
  rw [HD2.out, ← hlw] at KS
  go_wp2_with fail
  refine KS.out.mono ?_
  rintro e w3 ⟨hb3, hx3⟩
  have hb0 := (Below.grown (Below.refl rb u) HG2.out (Nat.le_of_lt hrbl) (fun k hk => by injection hk with hk; omega)).trans hb3
  have HB3 := hide hb0
  have hgd := body_gd h0 c0 (bs lw) r (show posT (L.drop n) = (t.line, t.col) by rw [HTR.out]; rfl) htk5 (HTR.out ▸ HLL.out)
  cases hbd : bodyR h0 c0 (bs lw) (posT (L.drop n)) r with
  | error q =>
    rw [hbd] at hx3
    simp only at hx3
    subst hx3
    refine ⟨rfl, HB3.out, ?_⟩
    rw [HE.out, hbd]
    rfl
  | ok v =>
    obtain ⟨⟨h1, c1⟩, r3⟩ := v
    rw [hbd] at hx3 hgd
    obtain ⟨rfl, m3, hd3, hst3⟩ := hx3
    have KE := hide (end_any hst3 (by rw [hd3]; exact hgd.2) hbig)
    rw [hd3] at KE
    have HEND := hide (HE.out.trans (by rw [hbd]; rfl : _ = bindR (endR r3) fun _ r => .ok ((h1, c1), r)))
    clear hgd hbd hd3 hst3 hb3 hb0 KS
    go_wp2_with fail
    refine KE.out.mono ?_
    rintro e w4 ⟨hb4, hx4⟩
    have HB4 := hide (HB3.out.trans hb4)
    cases hen : endR r3 with
    | error q =>
      rw [hen] at hx4
      simp only at hx4
      subst hx4
      refine ⟨rfl, HB4.out, ?_⟩
      rw [HEND.out, hen]
      rfl
    | ok v =>
      obtain ⟨s, r4⟩ := v
      rw [hen] at hx4
      obtain ⟨rfl, m4, hd4, hst4⟩ := hx4
      clear KE
      go_wp2_with fail
      go_end0
      refine ⟨HB4.out, ?_⟩
      rw [HEND.out, hen]
      exact ⟨rfl, m4, hd4, hst4⟩
set_option maxRecDepth 100000 in
set_option maxHeartbeats 8000000 in
theorem line_cue {rb n : Nat} {tv : Value} {L : List TokD} {h0 : HouseP} {c0 : SheetP} {u w0 : World} (h : RSt rb tv L n h0 c0 u) (hl : Last5 (L.drop n)) (hbig : L.length ≤ 1000000) (hts : ∀ t ∈ L, t.text.size ≤ 1000000) (hc : Ctx w0 rb u) {lw : ByteArray} {r : List TokD} (hw : takeR 1 stmtWord (L.drop n) = .ok (lw, r)) (hlw : bs lw = wCue) :
    Calls Tryz.prog 88 #[.pointer (some ⟨rb, 0, none⟩)] u (StPost rb tv L (stmtR h0 c0 (L.drop n)) u) := by
  obtain ⟨S, R, C, A, hin, hS, hR, hC, hA⟩ := h
  obtain ⟨t, rr, htr, htg, htn, hnl⟩ := hl.head
  have hrr : r = rr ∧ t.kind = 1 := by
    rw [htr] at hw
    simp only [takeR] at hw
    split at hw
    · rename_i hk
      simp only [Except.ok.injEq, Prod.mk.injEq] at hw
      exact ⟨hw.2.symm, hk.1⟩
    · cases hw
  obtain ⟨hrr, htk⟩ := hrr
  have htk5 : t.kind ≠ 5 := by omega
  subst hrr
  have HE := hide (stmtR_of (h := h0) (c := c0) hw)
  have HW := hide hw
  have hl1 : Last5 r := Last5.tail (htr ▸ hl) htk5
  have HL1 := hide hl1
  have HIN := hide hin
  have HC := hide hc
  have hrbl := hin.rd.lt
  obtain ⟨U, hU, hUs, hUb, hUh⟩ := boxed u (.cells #[.string ⟨#[114, 111, 111, 102]⟩, .string ⟨#[115, 101, 116]⟩, .string ⟨#[105, 116, 101, 109]⟩, .string ⟨#[98, 114, 105, 99, 107]⟩, .string ⟨#[99, 117, 101]⟩, .string ⟨#[109, 111, 118, 101]⟩, .string ⟨#[97, 112, 97, 114, 116]⟩] 9)
  have KT := hide (take_any (hin.rd.more hUb) hl hbig 1 _ stmtWord (texts_of stmtTexts (by decide) (by decide) hUh stmtWord stmt_texts 7))
  have HUG := hide (grown_of_below (g := some rb) hUb)
  have HTR := hide htr
  have HTG := hide htg
  have HLL := hide hl
  have HU := hide hU
  clear hc hin hU hUs hUb hUh hw htr htg htn hl hl1
  go_enter Tryz.func88, Tryz.ntmps88
  go_wp2_with fail
  rw [← HU.out]
  refine KT.out.mono ?_
  rintro e w2 ⟨hg2, hx⟩
  rw [HW.out] at hx
  obtain ⟨rfl, m2, h2, h3⟩ := hx
  obtain rfl := drop_next HTR.out h2 HL1.out
  have HG2 := hide (grown_trans HUG.out hg2)
  have HST := hide (RSt.grown HIN.out hS hR hC hA HG2.out h3 (by omega))
  have HC2 := hide (HC.out.grown HG2.out)
  have HD2 := hide h2
  have HRD := hide h3
  clear hg2 h2 h3 KT HUG HU
  have hlt : lw.toList = [99, 117, 101] := hlw
  have q0 : (lw.toList == [114, 111, 111, 102]) = false := by rw [hlt]; rfl
  have q1 : (lw.toList == [115, 101, 116]) = false := by rw [hlt]; rfl
  have q2 : (lw.toList == [105, 116, 101, 109]) = false := by rw [hlt]; rfl
  have q3 : (lw.toList == [98, 114, 105, 99, 107]) = false := by rw [hlt]; rfl
  have q4 : (lw.toList == [99, 117, 101]) = true := by rw [hlt]; rfl
  clear hlt
  have KS := hide (cue_any HST.out (posT (L.drop n)) (by rw [HD2.out]; exact HL1.out) hbig hts HC2.out)
  rw [HD2.out, ← hlw] at KS
  go_wp2_with fail
  refine KS.out.mono ?_
  rintro e w3 ⟨hb3, hx3⟩
  have hb0 := (Below.grown (Below.refl rb u) HG2.out (Nat.le_of_lt hrbl) (fun k hk => by injection hk with hk; omega)).trans hb3
  have HB3 := hide hb0
  have hgd := body_gd h0 c0 (bs lw) r (show posT (L.drop n) = (t.line, t.col) by rw [HTR.out]; rfl) htk5 (HTR.out ▸ HLL.out)
  cases hbd : bodyR h0 c0 (bs lw) (posT (L.drop n)) r with
  | error q =>
    rw [hbd] at hx3
    simp only at hx3
    subst hx3
    refine ⟨rfl, HB3.out, ?_⟩
    rw [HE.out, hbd]
    rfl
  | ok v =>
    obtain ⟨⟨h1, c1⟩, r3⟩ := v
    rw [hbd] at hx3 hgd
    obtain ⟨rfl, m3, hd3, hst3⟩ := hx3
    have KE := hide (end_any hst3 (by rw [hd3]; exact hgd.2) hbig)
    rw [hd3] at KE
    have HEND := hide (HE.out.trans (by rw [hbd]; rfl : _ = bindR (endR r3) fun _ r => .ok ((h1, c1), r)))
    clear hgd hbd hd3 hst3 hb3 hb0 KS
    go_wp2_with fail
    refine KE.out.mono ?_
    rintro e w4 ⟨hb4, hx4⟩
    have HB4 := hide (HB3.out.trans hb4)
    cases hen : endR r3 with
    | error q =>
      rw [hen] at hx4
      simp only at hx4
      subst hx4
      refine ⟨rfl, HB4.out, ?_⟩
      rw [HEND.out, hen]
      rfl
    | ok v =>
      obtain ⟨s, r4⟩ := v
      rw [hen] at hx4
      obtain ⟨rfl, m4, hd4, hst4⟩ := hx4
      clear KE
      go_wp2_with fail
      go_end0
      refine ⟨HB4.out, ?_⟩
      rw [HEND.out, hen]
      exact ⟨rfl, m4, hd4, hst4⟩
set_option maxRecDepth 100000 in
set_option maxHeartbeats 8000000 in
theorem line_move {rb n : Nat} {tv : Value} {L : List TokD} {h0 : HouseP} {c0 : SheetP} {u w0 : World} (h : RSt rb tv L n h0 c0 u) (hl : Last5 (L.drop n)) (hbig : L.length ≤ 1000000) (hts : ∀ t ∈ L, t.text.size ≤ 1000000) (hc : Ctx w0 rb u) {lw : ByteArray} {r : List TokD} (hw : takeR 1 stmtWord (L.drop n) = .ok (lw, r)) (hlw : bs lw = wMove) :
    Calls Tryz.prog 88 #[.pointer (some ⟨rb, 0, none⟩)] u (StPost rb tv L (stmtR h0 c0 (L.drop n)) u) := by
  obtain ⟨S, R, C, A, hin, hS, hR, hC, hA⟩ := h
  obtain ⟨t, rr, htr, htg, htn, hnl⟩ := hl.head
  have hrr : r = rr ∧ t.kind = 1 := by
    rw [htr] at hw
    simp only [takeR] at hw
    split at hw
    · rename_i hk
      simp only [Except.ok.injEq, Prod.mk.injEq] at hw
      exact ⟨hw.2.symm, hk.1⟩
    · cases hw
  obtain ⟨hrr, htk⟩ := hrr
  have htk5 : t.kind ≠ 5 := by omega
  subst hrr
  have HE := hide (stmtR_of (h := h0) (c := c0) hw)
  have HW := hide hw
  have hl1 : Last5 r := Last5.tail (htr ▸ hl) htk5
  have HL1 := hide hl1
  have HIN := hide hin
  have HC := hide hc
  have hrbl := hin.rd.lt
  obtain ⟨U, hU, hUs, hUb, hUh⟩ := boxed u (.cells #[.string ⟨#[114, 111, 111, 102]⟩, .string ⟨#[115, 101, 116]⟩, .string ⟨#[105, 116, 101, 109]⟩, .string ⟨#[98, 114, 105, 99, 107]⟩, .string ⟨#[99, 117, 101]⟩, .string ⟨#[109, 111, 118, 101]⟩, .string ⟨#[97, 112, 97, 114, 116]⟩] 9)
  have KT := hide (take_any (hin.rd.more hUb) hl hbig 1 _ stmtWord (texts_of stmtTexts (by decide) (by decide) hUh stmtWord stmt_texts 7))
  have HUG := hide (grown_of_below (g := some rb) hUb)
  have HTR := hide htr
  have HTG := hide htg
  have HLL := hide hl
  have HU := hide hU
  clear hc hin hU hUs hUb hUh hw htr htg htn hl hl1
  go_enter Tryz.func88, Tryz.ntmps88
  go_wp2_with fail
  rw [← HU.out]
  refine KT.out.mono ?_
  rintro e w2 ⟨hg2, hx⟩
  rw [HW.out] at hx
  obtain ⟨rfl, m2, h2, h3⟩ := hx
  obtain rfl := drop_next HTR.out h2 HL1.out
  have HG2 := hide (grown_trans HUG.out hg2)
  have HST := hide (RSt.grown HIN.out hS hR hC hA HG2.out h3 (by omega))
  have HC2 := hide (HC.out.grown HG2.out)
  have HD2 := hide h2
  have HRD := hide h3
  clear hg2 h2 h3 KT HUG HU
  have hlt : lw.toList = [109, 111, 118, 101] := hlw
  have q0 : (lw.toList == [114, 111, 111, 102]) = false := by rw [hlt]; rfl
  have q1 : (lw.toList == [115, 101, 116]) = false := by rw [hlt]; rfl
  have q2 : (lw.toList == [105, 116, 101, 109]) = false := by rw [hlt]; rfl
  have q3 : (lw.toList == [98, 114, 105, 99, 107]) = false := by rw [hlt]; rfl
  have q4 : (lw.toList == [99, 117, 101]) = false := by rw [hlt]; rfl
  have q5 : (lw.toList == [109, 111, 118, 101]) = true := by rw [hlt]; rfl
  clear hlt
  have KS := hide (move_any HST.out HTG.out (by rw [HD2.out]; exact HL1.out) hbig hts HC2.out)
  rw [show ((t.line, t.col) : Int × Int) = posT (L.drop n) by rw [HTR.out]; rfl] at KS
  rw [HD2.out, ← hlw] at KS
  go_wp2_with fail
  refine KS.out.mono ?_
  rintro e w3 ⟨hb3, hx3⟩
  have hb0 := (Below.grown (Below.refl rb u) HG2.out (Nat.le_of_lt hrbl) (fun k hk => by injection hk with hk; omega)).trans hb3
  have HB3 := hide hb0
  have hgd := body_gd h0 c0 (bs lw) r (show posT (L.drop n) = (t.line, t.col) by rw [HTR.out]; rfl) htk5 (HTR.out ▸ HLL.out)
  cases hbd : bodyR h0 c0 (bs lw) (posT (L.drop n)) r with
  | error q =>
    rw [hbd] at hx3
    simp only at hx3
    subst hx3
    refine ⟨rfl, HB3.out, ?_⟩
    rw [HE.out, hbd]
    rfl
  | ok v =>
    obtain ⟨⟨h1, c1⟩, r3⟩ := v
    rw [hbd] at hx3 hgd
    obtain ⟨rfl, m3, hd3, hst3⟩ := hx3
    have KE := hide (end_any hst3 (by rw [hd3]; exact hgd.2) hbig)
    rw [hd3] at KE
    have HEND := hide (HE.out.trans (by rw [hbd]; rfl : _ = bindR (endR r3) fun _ r => .ok ((h1, c1), r)))
    clear hgd hbd hd3 hst3 hb3 hb0 KS
    go_wp2_with fail
    refine KE.out.mono ?_
    rintro e w4 ⟨hb4, hx4⟩
    have HB4 := hide (HB3.out.trans hb4)
    cases hen : endR r3 with
    | error q =>
      rw [hen] at hx4
      simp only at hx4
      subst hx4
      refine ⟨rfl, HB4.out, ?_⟩
      rw [HEND.out, hen]
      rfl
    | ok v =>
      obtain ⟨s, r4⟩ := v
      rw [hen] at hx4
      obtain ⟨rfl, m4, hd4, hst4⟩ := hx4
      clear KE
      go_wp2_with fail
      go_end0
      refine ⟨HB4.out, ?_⟩
      rw [HEND.out, hen]
      exact ⟨rfl, m4, hd4, hst4⟩
end Go.Proofs.YtnjbfhfjdhfdlaaGreatDoor
namespace Go.Proofs.YtnjbfhfjdhfdlaaGreatDoor
open Go.RowKit

theorem bodyR_roof (h : HouseP) (c : SheetP) (p : Int × Int) (ts : List TokD) : bodyR h c wRoof p ts = bindR (roofR ts) fun x r => .ok (({ h with roofs := h.roofs ++ [x] }, c), r) := by rw [bodyR, if_pos rfl]
theorem bodyR_apart (h : HouseP) (c : SheetP) (p : Int × Int) (ts : List TokD) : bodyR h c wApart p ts = bindR (apartR ts) fun x r => .ok ((h, { c with apart := c.apart ++ [x] }), r) := by
  rw [bodyR, if_neg (by decide), if_neg (by decide), if_neg (by decide), if_neg (by decide), if_neg (by decide), if_neg (by decide)]
theorem roofR_name {ts : List TokD} {q : Int × Int} (h : nameR ts = .error q) : roofR ts = .error q := by rw [roofR, h]; rfl
theorem roofR_nums {ts r : List TokD} {nm : ByteArray} {q : Int × Int} (h : nameR ts = .ok (nm, r)) (h2 : numsR 3 r = .error q) : roofR ts = .error q := by rw [roofR, h]; simp only [bindR]; rw [h2]
theorem roofR_ok {ts r r2 : List TokD} {nm : ByteArray} {a : List Int} (h : nameR ts = .ok (nm, r)) (h2 : numsR 3 r = .ok (a, r2)) : roofR ts = .ok (⟨nm, nth a 0, nth a 1, nth a 2⟩, r2) := by rw [roofR, h]; simp only [bindR]; rw [h2]
theorem apartR_one {ts : List TokD} {q : Int × Int} (h : nameR ts = .error q) : apartR ts = .error q := by rw [apartR, h]; rfl
theorem apartR_two {ts r : List TokD} {a : ByteArray} {q : Int × Int} (h : nameR ts = .ok (a, r)) (h2 : nameR r = .error q) : apartR ts = .error q := by rw [apartR, h]; simp only [bindR]; rw [h2]
theorem apartR_ok {ts r r2 : List TokD} {a b : ByteArray} (h : nameR ts = .ok (a, r)) (h2 : nameR r = .ok (b, r2)) : apartR ts = .ok ((a, b), r2) := by rw [apartR, h]; simp only [bindR]; rw [h2]
theorem infoRoof : (Tryz.prog.info? 73).map (fun i => (i.zero, i.size, i.bytes)) = some (some (.agg #[.string ⟨#[]⟩, .int .i64 0, .int .i64 0, .int .i64 0]), 4, 40) := by kernel_rfl
theorem infoPair : (Tryz.prog.info? 83).map (fun i => (i.zero, i.size, i.bytes)) = some (some (.agg #[.string ⟨#[]⟩, .string ⟨#[]⟩]), 2, 32) := by kernel_rfl
set_option maxRecDepth 100000 in
set_option maxHeartbeats 8000000 in
theorem line_roof {rb n : Nat} {tv : Value} {L : List TokD} {h0 : HouseP} {c0 : SheetP} {u w0 : World} (h : RSt rb tv L n h0 c0 u) (hl : Last5 (L.drop n)) (hbig : L.length ≤ 1000000) (hts : ∀ t ∈ L, t.text.size ≤ 1000000) (hc : Ctx w0 rb u) {lw : ByteArray} {r : List TokD} (hw : takeR 1 stmtWord (L.drop n) = .ok (lw, r)) (hlw : bs lw = wRoof) :
    Calls Tryz.prog 88 #[.pointer (some ⟨rb, 0, none⟩)] u (StPost rb tv L (stmtR h0 c0 (L.drop n)) u) := by
  obtain ⟨S, R, C, A, hin, hS, hR, hC, hA⟩ := h
  obtain ⟨t, rr, htr, htg, htn, hnl⟩ := hl.head
  have hrr : r = rr ∧ t.kind = 1 := by
    rw [htr] at hw
    simp only [takeR] at hw
    split at hw
    · rename_i hk
      simp only [Except.ok.injEq, Prod.mk.injEq] at hw
      exact ⟨hw.2.symm, hk.1⟩
    · cases hw
  obtain ⟨hrr, htk⟩ := hrr
  have htk5 : t.kind ≠ 5 := by omega
  subst hrr
  have HE := hide (stmtR_of (h := h0) (c := c0) hw)
  have HW := hide hw
  have hl1 : Last5 r := Last5.tail (htr ▸ hl) htk5
  have HL1 := hide hl1
  have HIN := hide hin
  have HC := hide hc
  have hrbl := hin.rd.lt
  obtain ⟨U, hU, hUs, hUb, hUh⟩ := boxed u (.cells #[.string ⟨#[114, 111, 111, 102]⟩, .string ⟨#[115, 101, 116]⟩, .string ⟨#[105, 116, 101, 109]⟩, .string ⟨#[98, 114, 105, 99, 107]⟩, .string ⟨#[99, 117, 101]⟩, .string ⟨#[109, 111, 118, 101]⟩, .string ⟨#[97, 112, 97, 114, 116]⟩] 9)
  have KT := hide (take_any (hin.rd.more hUb) hl hbig 1 _ stmtWord (texts_of stmtTexts (by decide) (by decide) hUh stmtWord stmt_texts 7))
  have HUG := hide (grown_of_below (g := some rb) hUb)
  have HTR := hide htr
  have HTG := hide htg
  have HLL := hide hl
  have HU := hide hU
  clear hc hin hU hUs hUb hUh hw htr htg htn hl hl1
  go_enter Tryz.func88, Tryz.ntmps88
  go_wp2_with fail
  rw [← HU.out]
  refine KT.out.mono ?_
  rintro e w2 ⟨hg2, hx⟩
  rw [HW.out] at hx
  obtain ⟨rfl, m2, h2, h3⟩ := hx
  obtain rfl := drop_next HTR.out h2 HL1.out
  have HG2 := hide (grown_trans HUG.out hg2)
  have HST := hide (RSt.grown HIN.out hS hR hC hA HG2.out h3 (by omega))
  have HC2 := hide (HC.out.grown HG2.out)
  have HD2 := hide h2
  have HRD := hide h3
  clear hg2 h2 h3 KT HUG HU
  have hlt : lw.toList = [114, 111, 111, 102] := hlw
  have q0 : (lw.toList == [114, 111, 111, 102]) = true := by rw [hlt]; rfl
  clear hlt
  have HSH := hide hS
  have HRH := hide hR
  have HCH := hide hC
  have HAH := hide hA
  clear hS hR hC hA
  have HB := hide (show bodyR h0 c0 (bs lw) (posT (L.drop n)) r = bindR (roofR r) fun x r => .ok (({ h0 with roofs := h0.roofs ++ [x] }, c0), r) by rw [hlw, bodyR_roof])
  have KN := hide (name_any HRD.out (by rw [HD2.out]; exact HL1.out) hbig)
  rw [HD2.out] at KN
  go_wp2_with fail
  refine KN.out.mono ?_
  rintro e w3 ⟨hg3, hx⟩
  have HG3 := hide (grown_trans HG2.out hg3)
  cases hnm : nameR r with
  | error q =>
    rw [hnm] at hx
    simp only at hx
    subst hx
    refine ⟨rfl, Below.grown (Below.refl _ _) HG3.out (Nat.le_of_lt hrbl) (fun k hk => by injection hk with hk; omega), ?_⟩
    rw [HE.out, HB.out, roofR_name hnm]
    rfl
  | ok v =>
    obtain ⟨nm, r3⟩ := v
    rw [hnm] at hx
    obtain ⟨rfl, m3, h2, h3⟩ := hx
    have hgd := name_gd r HL1.out
    rw [hnm] at hgd
    have H5 := hide (show Last5 (L.drop m3) by rw [h2]; exact hgd.2)
    have HR3 := hide h3
    have HN := hide (And.intro hnm h2)
    clear h2 h3 hnm hgd KN hg3
    go_upto_region 4 with fail
    have KP := hide (put_any [1, 2, 3] (cur := #[.string nm, .int .i64 0, .int .i64 0, .int .i64 0]) (ty := 73) HR3.out HIN.out.low H5.out hbig hts (HC.out.grown HG3.out) (by intro o ho; simp at ho ⊢; omega) (by decide) 155 #[.pointer (some ⟨w3.heap.size, 1, none⟩), .pointer (some ⟨w3.heap.size, 2, none⟩), .pointer (some ⟨w3.heap.size, 3, none⟩)] rfl 3)
    go_wp2_with fail
    refine KP.out.mono ?_
    rintro e w5 ⟨hg5, hx⟩
    have HG := hide (grown_trans HG3.out hg5)
    have HX := hide hx
    obtain ⟨sb, hsb⟩ : ∃ b, b = w3.heap.size := ⟨_, rfl⟩
    have HSB := hide hsb
    clear hg5 hx KP hsb
    rw [show ([1, 2, 3] : List Nat).length = 3 from rfl] at HX
    rw [← HSB.out] at HX
    rw [← HSB.out]
    cases hns : numsR 3 (L.drop m3) with
    | error q =>
      have h1 := HX.out
      rw [hns] at h1
      simp only at h1
      subst h1
      refine ⟨rfl, Below.grown (Below.refl _ _) HG.out (Nat.le_of_lt hrbl) (fun k hk => by injection hk with hk; omega), ?_⟩
      rw [HE.out, HB.out, roofR_nums HN.out.1 (by rw [← HN.out.2]; exact hns)]
      rfl
    | ok v =>
      obtain ⟨l, r2⟩ := v
      have h1 := HX.out
      rw [hns] at h1
      obtain ⟨rfl, hsz, h2, m5, h3, h4⟩ := h1
      have hll := numsR_len 3 hns
      obtain ⟨a1, a2, a3, rfl⟩ : ∃ a1 a2 a3, l = [a1, a2, a3] := by
        match l, hll with
        | [a1, a2, a3], _ => exact ⟨_, _, _, rfl⟩
      have HR5 := hide h4
      have hgd2 := nums_gd 3 (L.drop m3) H5.out
      rw [hns] at hgd2
      have HL5 := hide (show Last5 (L.drop m5) by rw [h3]; exact hgd2.2)
      clear hgd2
      have HBODY := hide (show stmtR h0 c0 (L.drop n) = bindR (endR (L.drop m5)) fun _ r => .ok (({ h0 with roofs := h0.roofs ++ [⟨nm, a1, a2, a3⟩] }, c0), r) by
        rw [HE.out, HB.out, roofR_ok HN.out.1 (by rw [← HN.out.2]; exact hns), h3]; rfl)
      have h2 : w5.heap[sb]? = some (.cells #[.string nm, .int .i64 a1, .int .i64 a2, .int .i64 a3] 73 (0, 0)) := h2
      have hlen : n + 1 ≤ m5 := by
        have e1 := name_less' HN.out.1
        have e2 := nums_less 3 _ _ _ hns
        have e3 := congrArg List.length h3
        have e4 := congrArg List.length HN.out.2
        have e5 := congrArg List.length HD2.out
        obtain ⟨_, _, _, _, _, h9⟩ := HL5.out.head
        simp only [List.length_drop] at e1 e2 e3 e4 e5
        omega
      obtain ⟨i8, hi8, hz8, hs8, hb8⟩ := info_parts infoRoof
      have HI := hide (And.intro hi8 (And.intro hz8 (And.intro hs8 hb8)))
      have HIN5 := hide (HIN.out.kept HG.out HR5.out (by omega))
      have hit0 := HIN.out.roofs.2
      have hm5 : m5 ≤ 1000000 := by obtain ⟨_, _, _, _, _, h9⟩ := HL5.out.head; omega
      have hrb5 := HIN5.out.rd.lt
      have c6 : w5.cell? ⟨rb, 5, none⟩ = some (.slice R.A R.l.length R.cap) := (HIN5.out.rd.cellr 3).trans rfl
      have hsb := Joins.cell_of_block h2
      have hs0 := hsb 0
      have hs1 := hsb 1
      have hs2 := hsb 2
      have hs3 := hsb 3
      clear hi8 hz8 hs8 hb8 hsb HX h2 h3 h4 hns hll
      go_wp2_with fail
      go_region_law ((refine step_append_lies _ (by rfl) (.tmp 38) (.tmp 40) 23 (by rfl) (rb + 1) 73 i8 (.agg #[.string ⟨#[]⟩, .int .i64 0, .int .i64 0, .int .i64 0]) 4 40 Tryz.underlying23 HI.out.1 HI.out.2.1 HI.out.2.2.1 HI.out.2.2.2 rfl (by omega) R.val R.l.length (R.l.flatMap RoofD.cells) (by rfl) (HIN5.out.roofs.1.alloc _) ⟨w5.heap.size, 0, none⟩ 1 1 (RoofD.cells ⟨nm, a1, a2, a3⟩) (by go_simp) rfl (World.news_of_block (heap_alloc_new w5 _)) (fun u hu => by simp [RoofD.cells] at hu; rcases hu with rfl | rfl | rfl | rfl <;> rfl) (by omega) (by unfold maxLen; omega) (by omega) (by simp; omega) (w5.heap.size + 1) (by simp) ?_; intro g4 cap4 w6 hown4 hgr4 hg4 hlt4; obtain ⟨⟨cv, hcv⟩, hfr, hbel4, hin4⟩ := RIn.addRoof HIN5.out hown4 (undrew hgr4) hg4 (by omega)))
      all_goals
            have HSTE : RSt rb tv L m5 { h0 with roofs := h0.roofs ++ [⟨nm, a1, a2, a3⟩] } c0 _ := ⟨S, _, C, A, hin4, HSH.out, by rw [← HRH.out], HCH.out, HAH.out⟩
            go_simp
            have HB3 := hide (((Below.grown (Below.refl rb u) HG.out (Nat.le_of_lt hrbl) (fun k hk => by injection hk with hk; omega))).trans (hbel4.mono (Nat.le_refl _)))
            have KE := hide (end_any HSTE HL5.out hbig)
            clear hown4 hgr4 hg4 hlt4 hin4 hbel4
            go_wp2_with fail
            refine KE.out.mono ?_
            rintro e w9 ⟨hb9, hx9⟩
            have HB9 := hide (HB3.out.trans hb9)
            cases hen : endR (L.drop m5) with
            | error q =>
              rw [hen] at hx9
              simp only at hx9
              subst hx9
              refine ⟨rfl, HB9.out, ?_⟩
              rw [HBODY.out, hen]
              rfl
            | ok v =>
              obtain ⟨s, r4⟩ := v
              rw [hen] at hx9
              obtain ⟨rfl, m9, hd9, hst9⟩ := hx9
              clear KE
              go_wp2_with fail
              go_end0
              refine ⟨HB9.out, ?_⟩
              rw [HBODY.out, hen]
              exact ⟨rfl, m9, hd9, hst9⟩
set_option maxRecDepth 100000 in
set_option maxHeartbeats 8000000 in
theorem line_apart {rb n : Nat} {tv : Value} {L : List TokD} {h0 : HouseP} {c0 : SheetP} {u w0 : World} (h : RSt rb tv L n h0 c0 u) (hl : Last5 (L.drop n)) (hbig : L.length ≤ 1000000) (_ : ∀ t ∈ L, t.text.size ≤ 1000000) (hc : Ctx w0 rb u) {lw : ByteArray} {r : List TokD} (hw : takeR 1 stmtWord (L.drop n) = .ok (lw, r)) (hlw : bs lw = wApart) :
    Calls Tryz.prog 88 #[.pointer (some ⟨rb, 0, none⟩)] u (StPost rb tv L (stmtR h0 c0 (L.drop n)) u) := by
  obtain ⟨S, R, C, A, hin, hS, hR, hC, hA⟩ := h
  obtain ⟨t, rr, htr, htg, htn, hnl⟩ := hl.head
  have hrr : r = rr ∧ t.kind = 1 := by
    rw [htr] at hw
    simp only [takeR] at hw
    split at hw
    · rename_i hk
      simp only [Except.ok.injEq, Prod.mk.injEq] at hw
      exact ⟨hw.2.symm, hk.1⟩
    · cases hw
  obtain ⟨hrr, htk⟩ := hrr
  have htk5 : t.kind ≠ 5 := by omega
  subst hrr
  have HE := hide (stmtR_of (h := h0) (c := c0) hw)
  have HW := hide hw
  have hl1 : Last5 r := Last5.tail (htr ▸ hl) htk5
  have HL1 := hide hl1
  have HIN := hide hin
  have HC := hide hc
  have hrbl := hin.rd.lt
  obtain ⟨U, hU, hUs, hUb, hUh⟩ := boxed u (.cells #[.string ⟨#[114, 111, 111, 102]⟩, .string ⟨#[115, 101, 116]⟩, .string ⟨#[105, 116, 101, 109]⟩, .string ⟨#[98, 114, 105, 99, 107]⟩, .string ⟨#[99, 117, 101]⟩, .string ⟨#[109, 111, 118, 101]⟩, .string ⟨#[97, 112, 97, 114, 116]⟩] 9)
  have KT := hide (take_any (hin.rd.more hUb) hl hbig 1 _ stmtWord (texts_of stmtTexts (by decide) (by decide) hUh stmtWord stmt_texts 7))
  have HUG := hide (grown_of_below (g := some rb) hUb)
  have HTR := hide htr
  have HTG := hide htg
  have HLL := hide hl
  have HU := hide hU
  clear hc hin hU hUs hUb hUh hw htr htg htn hl hl1
  go_enter Tryz.func88, Tryz.ntmps88
  go_wp2_with fail
  rw [← HU.out]
  refine KT.out.mono ?_
  rintro e w2 ⟨hg2, hx⟩
  rw [HW.out] at hx
  obtain ⟨rfl, m2, h2, h3⟩ := hx
  obtain rfl := drop_next HTR.out h2 HL1.out
  have HG2 := hide (grown_trans HUG.out hg2)
  have HST := hide (RSt.grown HIN.out hS hR hC hA HG2.out h3 (by omega))
  have HC2 := hide (HC.out.grown HG2.out)
  have HD2 := hide h2
  have HRD := hide h3
  clear hg2 h2 h3 KT HUG HU
  have hlt : lw.toList = [97, 112, 97, 114, 116] := hlw
  have q0 : (lw.toList == [114, 111, 111, 102]) = false := by rw [hlt]; rfl
  have q1 : (lw.toList == [115, 101, 116]) = false := by rw [hlt]; rfl
  have q2 : (lw.toList == [105, 116, 101, 109]) = false := by rw [hlt]; rfl
  have q3 : (lw.toList == [98, 114, 105, 99, 107]) = false := by rw [hlt]; rfl
  have q4 : (lw.toList == [99, 117, 101]) = false := by rw [hlt]; rfl
  have q5 : (lw.toList == [109, 111, 118, 101]) = false := by rw [hlt]; rfl
  clear hlt
  have HSH := hide hS
  have HRH := hide hR
  have HCH := hide hC
  have HAH := hide hA
  clear hS hR hC hA
  have HB := hide (show bodyR h0 c0 (bs lw) (posT (L.drop n)) r = bindR (apartR r) fun x r => .ok ((h0, { c0 with apart := c0.apart ++ [x] }), r) by rw [hlw, bodyR_apart])
  have HIN2 := hide (HIN.out.kept HG2.out HRD.out (by omega))
  have c6 : w2.cell? ⟨rb, 7, none⟩ = some (.slice A.A A.l.length A.cap) := (HRD.out.cellr 5).trans rfl
  have KN := name_any (u := w2.drew) ⟨HRD.out.box, HRD.out.toks⟩ (by rw [HD2.out]; exact HL1.out) hbig
  rw [HD2.out] at KN
  cases hn1 : nameR r with
  | error q =>
    have KE := hide (show Calls Tryz.prog 85 #[.pointer (some ⟨rb, 0, none⟩)] w2.drew (fun e w' => w2.drew.grownBy w' (some rb) ∧ e = .panicked [{ v := .iface 131 (.agg #[.int .i64 q.1, .int .i64 q.2]), recovered := false }]) from KN.mono (fun e w' h => by
      have h1 := h.2
      rw [hn1] at h1
      exact ⟨h.1, h1⟩))
    clear KN
    go_wp2_with fail
    go_region_law ((go_simp; go_at_call 85; refine KE.out.mono ?_; rintro e w3 ⟨hg3, rfl⟩; refine dead_end (md := .any) (a := ⟨#[], []⟩) (w := w3) ?_ ?_; focus (go_simp; exact ⟨rfl, Below.grown (Below.refl _ _) (grown_trans HG2.out (undrew hg3)) (Nat.le_of_lt hrbl) (fun k hk => by injection hk with hk; omega), by rw [HE.out, HB.out, apartR_one hn1]; rfl⟩)))
    all_goals exact trivial
  | ok v =>
    obtain ⟨na, r3⟩ := v
    have KO := hide (show Calls Tryz.prog 85 #[.pointer (some ⟨rb, 0, none⟩)] w2.drew (fun e w' => w2.drew.grownBy w' (some rb) ∧ e = .returned (.string na) ∧ ∃ n, L.drop n = r3 ∧ Rd0 rb tv L n (memRest h0.name h0.height S R C A) w') from KN.mono (fun e w' h => by
      have h1 := h.2
      rw [hn1] at h1
      exact ⟨h.1, h1⟩))
    have hgd := name_gd r HL1.out
    rw [hn1] at hgd
    have HL3 := hide hgd.2
    have hlr := name_less' hn1
    clear KN hgd
    cases hn2 : nameR r3 with
    | error q =>
      have HA := hide (apartR_two hn1 hn2)
      go_wp2_with fail
      go_region_law (first
        | (go_simp; go_at_call 85; refine KN2.out.mono ?_; rintro e w4 ⟨hg4, rfl⟩; refine dead_end (md := .any) (a := ⟨#[], []⟩) (w := w4) ?_ ?_; focus (go_simp; exact ⟨rfl, Below.grown (Below.refl _ _) (grown_trans HG3.out hg4) (Nat.le_of_lt hrbl) (fun k hk => by injection hk with hk; omega), by rw [HE.out, HB.out, HA.out]; rfl⟩))
        | (go_simp; go_at_call 85; refine KO.out.mono ?_; rintro e w3 ⟨hg3, rfl, m3, hd3, hr3⟩
           have HG3 := hide (grown_trans HG2.out (undrew hg3))
           have c63 : w3.cell? ⟨rb, 7, none⟩ = some (.slice A.A A.l.length A.cap) := (hr3.cellr 5).trans rfl
           have KN2 := hide (show Calls Tryz.prog 85 #[.pointer (some ⟨rb, 0, none⟩)] w3 (fun e w' => w3.grownBy w' (some rb) ∧ e = .panicked [{ v := .iface 131 (.agg #[.int .i64 q.1, .int .i64 q.2]), recovered := false }]) from (name_any hr3 (by rw [hd3]; exact HL3.out) hbig).mono (fun e w' h => by
             have h1 := h.2
             rw [hd3, hn2] at h1
             exact ⟨h.1, h1⟩))
           clear hd3 hg3 hr3))
      all_goals exact trivial
    | ok v =>
      obtain ⟨nb, r4⟩ := v
      have hgd := name_gd r3 HL3.out
      rw [hn2] at hgd
      have HL4 := hide hgd.2
      have hlr2 := name_less' hn2
      have HA := hide (show stmtR h0 c0 (L.drop n) = bindR (endR r4) fun _ r => .ok ((h0, { c0 with apart := c0.apart ++ [(na, nb)] }), r) by
        rw [HE.out, HB.out, apartR_ok hn1 hn2]; rfl)
      obtain ⟨i8, hi8, hz8, hs8, hb8⟩ := info_parts infoPair
      have HI := hide (And.intro hi8 (And.intro hz8 (And.intro hs8 hb8)))
      have hit0 := HIN.out.pairs.2
      clear hgd hi8 hz8 hs8 hb8
      go_wp2_with fail
      go_region_law (first
        | (go_simp; go_at_call 85; refine KN2.out.mono ?_; rintro e w4 ⟨hg4, rfl, m4, hd4, hr4⟩
           have HG := hide (grown_trans HG3.out hg4)
           have c64 : w4.cell? ⟨rb, 7, none⟩ = some (.slice A.A A.l.length A.cap) := (hr4.cellr 5).trans rfl
           have c65 : ∀ o, (w4.alloc o).cell? ⟨rb, 7, none⟩ = some (.slice A.A A.l.length A.cap) := fun o => (World.cell?_of_block (a := ⟨rb, 7, none⟩) (heap_alloc_old w4 o hr4.lt)).trans c64
           have hm4 : n + 2 ≤ m4 ∧ m4 ≤ 1000000 := by
             have e1 := congrArg List.length hd4
             have e3 := congrArg List.length HD2.out
             obtain ⟨_, _, _, _, _, h9⟩ := (show Last5 (L.drop m4) by rw [hd4]; exact HL4.out).head
             simp only [List.length_drop] at e1 e3
             omega
           have HIN4 := hide (HIN.out.kept HG.out hr4 (by omega))
           have HL5 := hide (show Last5 (L.drop m4) by rw [hd4]; exact HL4.out)
           have HBODY := hide (show stmtR h0 c0 (L.drop n) = bindR (endR (L.drop m4)) fun _ r => .ok ((h0, { c0 with apart := c0.apart ++ [(na, nb)] }), r) by rw [hd4]; exact HA.out)
           have hrb4 := hr4.lt
           clear hd4 hg4 hr4)
        | (go_simp; go_at_call 85; refine KO.out.mono ?_; rintro e w3 ⟨hg3, rfl, m3, hd3, hr3⟩
           have HG3 := hide (grown_trans HG2.out (undrew hg3))
           have c63 : w3.cell? ⟨rb, 7, none⟩ = some (.slice A.A A.l.length A.cap) := (hr3.cellr 5).trans rfl
           have KN2 := hide (show Calls Tryz.prog 85 #[.pointer (some ⟨rb, 0, none⟩)] w3 (fun e w' => w3.grownBy w' (some rb) ∧ e = .returned (.string nb) ∧ ∃ n, L.drop n = r4 ∧ Rd0 rb tv L n (memRest h0.name h0.height S R C A) w') from (name_any hr3 (by rw [hd3]; exact HL3.out) hbig).mono (fun e w' h => by
             have h1 := h.2
             rw [hd3, hn2] at h1
             exact ⟨h.1, h1⟩))
           clear hd3 hg3 hr3)
        | (refine step_append_lies _ (by rfl) (.tmp 11) (.tmp 17) 27 (by rfl) (rb + 1) 83 i8 (.agg #[.string ⟨#[]⟩, .string ⟨#[]⟩]) 2 32 Tryz.underlying27 HI.out.1 HI.out.2.1 HI.out.2.2.1 HI.out.2.2.2 rfl (by omega) A.val A.l.length (A.l.flatMap pairCells) (by rfl) (HIN4.out.pairs.1.alloc _) ⟨w4.heap.size, 0, none⟩ 1 1 (pairCells (na, nb)) (by go_simp) rfl (World.news_of_block (heap_alloc_new w4 _)) (fun u hu => by simp [pairCells] at hu; rcases hu with rfl | rfl <;> rfl) (by omega) (by unfold maxLen; omega) (by omega) (by simp; omega) (w4.heap.size + 1) (by simp) ?_; intro g4 cap4 w6 hown4 hgr4 hg4 hlt4; obtain ⟨⟨cv, hcv⟩, hfr, hbel4, hin4⟩ := RIn.addPair HIN4.out hown4 (by first | exact hgr4 | exact undrew hgr4) hg4 (by omega)))
      all_goals
            have HSTE : RSt rb tv L m4 h0 { c0 with apart := c0.apart ++ [(na, nb)] } _ := ⟨S, R, C, _, hin4, HSH.out, HRH.out, HCH.out, by rw [← HAH.out]⟩
            go_simp
            have HB3 := hide (((Below.grown (Below.refl rb u) HG.out (Nat.le_of_lt hrbl) (fun k hk => by injection hk with hk; omega))).trans (hbel4.mono (Nat.le_refl _)))
            have KE := hide (end_any HSTE HL5.out hbig)
            clear hown4 hgr4 hg4 hlt4 hin4 hbel4
            go_wp2_with fail
            refine KE.out.mono ?_
            rintro e w9 ⟨hb9, hx9⟩
            have HB9 := hide (HB3.out.trans hb9)
            cases hen : endR (L.drop m4) with
            | error q =>
              rw [hen] at hx9
              simp only at hx9
              subst hx9
              refine ⟨rfl, HB9.out, ?_⟩
              rw [HBODY.out, hen]
              rfl
            | ok v =>
              obtain ⟨s, r4⟩ := v
              rw [hen] at hx9
              obtain ⟨rfl, m9, hd9, hst9⟩ := hx9
              clear KE
              go_wp2_with fail
              go_end0
              refine ⟨HB9.out, ?_⟩
              rw [HBODY.out, hen]
              exact ⟨rfl, m9, hd9, hst9⟩
set_option maxRecDepth 100000 in
set_option maxHeartbeats 8000000 in
theorem line_bad {rb n : Nat} {tv : Value} {L : List TokD} {h0 : HouseP} {c0 : SheetP} {u : World} (h : RSt rb tv L n h0 c0 u) (hl : Last5 (L.drop n)) (hbig : L.length ≤ 1000000) {q : Int × Int} (hw : takeR 1 stmtWord (L.drop n) = .error q) :
    Calls Tryz.prog 88 #[.pointer (some ⟨rb, 0, none⟩)] u (StPost rb tv L (stmtR h0 c0 (L.drop n)) u) := by
  obtain ⟨S, R, C, A, hin, hS, hR, hC, hA⟩ := h
  have HE := hide (show stmtR h0 c0 (L.drop n) = .error q by rw [stmtR, hw]; rfl)
  have HW := hide hw
  have hrbl := hin.rd.lt
  obtain ⟨U, hU, hUs, hUb, hUh⟩ := boxed u (.cells #[.string ⟨#[114, 111, 111, 102]⟩, .string ⟨#[115, 101, 116]⟩, .string ⟨#[105, 116, 101, 109]⟩, .string ⟨#[98, 114, 105, 99, 107]⟩, .string ⟨#[99, 117, 101]⟩, .string ⟨#[109, 111, 118, 101]⟩, .string ⟨#[97, 112, 97, 114, 116]⟩] 9)
  have KT := hide (take_any (hin.rd.more hUb) hl hbig 1 _ stmtWord (texts_of stmtTexts (by decide) (by decide) hUh stmtWord stmt_texts 7))
  have HUG := hide (grown_of_below (g := some rb) hUb)
  have HU := hide hU
  clear hin hU hUs hUb hUh hw hl
  go_enter Tryz.func88, Tryz.ntmps88
  go_wp2_with fail
  rw [← HU.out]
  refine KT.out.mono ?_
  rintro e w2 ⟨hg2, hx⟩
  rw [HW.out] at hx
  simp only at hx
  subst hx
  refine ⟨rfl, Below.grown (Below.refl _ _) (grown_trans HUG.out hg2) (Nat.le_of_lt hrbl) (fun k hk => by injection hk with hk; omega), ?_⟩
  rw [HE.out]
theorem take_ok_word {k : Int} {ok : List UInt8 → Bool} {ts r : List TokD} {lw : ByteArray} (h : takeR k ok ts = .ok (lw, r)) : ok (bs lw) = true := by
  cases ts with
  | nil => cases h
  | cons t rr =>
    simp only [takeR] at h
    split at h
    · rename_i hk
      simp only [Except.ok.injEq, Prod.mk.injEq] at h
      rw [← h.1]; exact hk.2
    · cases h
theorem line_any {rb n : Nat} {tv : Value} {L : List TokD} {h0 : HouseP} {c0 : SheetP} {u w0 : World} (h : RSt rb tv L n h0 c0 u) (hl : Last5 (L.drop n)) (hbig : L.length ≤ 1000000) (hts : ∀ t ∈ L, t.text.size ≤ 1000000) (hc : Ctx w0 rb u) :
    Calls Tryz.prog 88 #[.pointer (some ⟨rb, 0, none⟩)] u (StPost rb tv L (stmtR h0 c0 (L.drop n)) u) := by
  cases hw : takeR 1 stmtWord (L.drop n) with
  | error q => exact line_bad h hl hbig hw
  | ok v =>
    obtain ⟨lw, r⟩ := v
    have hk := take_ok_word hw
    simp only [stmtWord, Bool.or_eq_true, decide_eq_true_eq] at hk
    rcases hk with (((((hk | hk) | hk) | hk) | hk) | hk) | hk
    · exact line_roof h hl hbig hts hc hw hk
    · exact line_set h hl hbig hts hc hw hk
    · exact line_item h hl hbig hts hc hw hk
    · exact line_brick h hl hbig hts hc hw hk
    · exact line_cue h hl hbig hts hc hw hk
    · exact line_move h hl hbig hts hc hw hk
    · exact line_apart h hl hbig hts hc hw hk
end Go.Proofs.YtnjbfhfjdhfdlaaGreatDoor
