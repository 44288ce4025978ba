/- The reader's method line: the ways that call another method. -/
import Derived.Test.YtnjbfhfjdhfdlaaGreatDoorSrcSet
import Derived.Test.YtnjbfhfjdhfdlaaGreatDoorSrcCue
import Derived.Test.YtnjbfhfjdhfdlaaGreatDoorSrcMove
import Derived.Test.YtnjbfhfjdhfdlaaGreatDoorSrcBrick
namespace Go.Proofs.YtnjbfhfjdhfdlaaGreatDoor
open Go.RowKit

theorem stmtR_of {h : HouseP} {c : SheetP} {ts r : List TokD} {lw : ByteArray} (hw : takeR 1 stmtWord ts = .ok (lw, r)) : stmtR h c ts = bindR (bodyR h c (bs lw) (posT ts) r) fun x r => bindR (endR r) fun _ r => .ok (x, r) := by rw [stmtR, hw]; rfl
/-- what take leaves of a line's end -/
def EndPost (rb : Nat) (tv : Value) (L : List TokD) (h : HouseP) (c : SheetP) (x : Rd ByteArray) (u : World) (e : Ending) (w' : World) : Prop :=
  Below rb u w' ∧ match x with
    | .ok (s, r) => e = .returned (.string s) ∧ ∃ n, L.drop n = r ∧ RSt rb tv L n h c w'
    | .error q => e = .panicked [{ v := .iface 131 (.agg #[.int .i64 q.1, .int .i64 q.2]), recovered := false }]
theorem end_any {rb n : Nat} {tv : Value} {L : List TokD} {h : HouseP} {c : SheetP} {u : World} (hst : RSt rb tv L n h c u) (hl : Last5 (L.drop n)) (hbig : L.length ≤ 1000000) :
    Calls Tryz.prog 84 #[.pointer (some ⟨rb, 0, none⟩), .int .i64 4, .slice none 0 0] u (EndPost rb tv L h c (endR (L.drop n)) u) := by
  obtain ⟨S, R, C, A, hin, hS, hR, hC, hA⟩ := hst
  refine (take_any hin.rd hl hbig 4 (.slice none 0 0) (fun _ => true) (Or.inl ⟨rfl, rfl⟩)).mono ?_
  rintro e w' ⟨hg, hx⟩
  have hb : Below rb u w' := Below.grown (Below.refl _ _) hg (Nat.le_of_lt hin.rd.lt) (fun k hk => by injection hk with hk; omega)
  refine ⟨hb, ?_⟩
  show match takeR 4 (fun _ => true) (L.drop n) with | .ok (s, r) => _ | .error q => _
  cases ht : takeR 4 (fun _ => true) (L.drop n) with
  | error q => rw [ht] at hx; exact hx
  | ok v =>
    obtain ⟨s, r⟩ := v
    rw [ht] at hx
    obtain ⟨h1, m, h2, h3⟩ := hx
    have e1 := take_less 4 (fun _ => true) _ _ _ ht
    have e2 := congrArg List.length h2
    simp only [List.length_drop] at e1 e2
    exact ⟨h1, m, h2, S, R, C, A, hin.kept hg h3 (by omega), hS, hR, hC, hA⟩
theorem RSt.grown {rb n m : Nat} {tv : Value} {L : List TokD} {h : HouseP} {c : SheetP} {S : Sl SetD} {R : Sl RoofD} {C : Sl CueD} {A : Sl (ByteArray × ByteArray)} {x y : World} (hin : RIn rb tv L n h.name h.height S R C A x) (hS : S.l.map SetD.pl = h.sets) (hR : R.l = h.roofs) (hC : C.l.map CueD.pl = c.cues) (hA : A.l = c.apart) (hg : x.grownBy y (some rb)) (hr : Rd0 rb tv L m (memRest h.name h.height S R C A) y) (hnm : n ≤ m) : RSt rb tv L m h c y :=
  ⟨S, R, C, A, hin.kept hg hr hnm, hS, hR, hC, hA⟩
/-- the place of the next token -/
theorem drop_next {L r : List TokD} {n m : Nat} {t : TokD} (h : L.drop n = t :: r) (h2 : L.drop m = r) (hl : Last5 r) : m = n + 1 := by
  have e1 := congrArg List.length h
  have e2 := congrArg List.length h2
  have e3 : r.length ≠ 0 := fun e => hl.ne (List.eq_nil_of_length_eq_zero e)
  simp only [List.length_drop, List.length_cons] at e1 e2
  omega
set_option maxRecDepth 100000 in
set_option maxHeartbeats 8000000 in
theorem line_set {rb n : Nat} {tv : Value} {L : List TokD} {h0 : HouseP} {c0 : SheetP} {u w0 : World} (h : RSt rb tv L n h0 c0 u) (hl : Last5 (L.drop n)) (hbig : L.length ≤ 1000000) (hts : ∀ t ∈ L, t.text.size ≤ 1000000) (hc : Ctx w0 rb u) {lw : ByteArray} {r : List TokD} (hw : takeR 1 stmtWord (L.drop n) = .ok (lw, r)) (hlw : bs lw = wSet) :
    Calls Tryz.prog 88 #[.pointer (some ⟨rb, 0, none⟩)] u (StPost rb tv L (stmtR h0 c0 (L.drop n)) u) := by
  obtain ⟨S, R, C, A, hin, hS, hR, hC, hA⟩ := h
  obtain ⟨t, rr, htr, htg, htn, hnl⟩ := hl.head
  have hrr : r = rr ∧ t.kind = 1 := by
    rw [htr] at hw
    simp only [takeR] at hw
    split at hw
    · rename_i hk
      simp only [Except.ok.injEq, Prod.mk.injEq] at hw
      exact ⟨hw.2.symm, hk.1⟩
    · cases hw
  obtain ⟨hrr, htk⟩ := hrr
  have htk5 : t.kind ≠ 5 := by omega
  subst hrr
  have HE := hide (stmtR_of (h := h0) (c := c0) hw)
  have HW := hide hw
  have hl1 : Last5 r := Last5.tail (htr ▸ hl) htk5
  have HL1 := hide hl1
  have HIN := hide hin
  have HC := hide hc
  have hrbl := hin.rd.lt
  obtain ⟨U, hU, hUs, hUb, hUh⟩ := boxed u (.cells #[.string ⟨#[114, 111, 111, 102]⟩, .string ⟨#[115, 101, 116]⟩, .string ⟨#[105, 116, 101, 109]⟩, .string ⟨#[98, 114, 105, 99, 107]⟩, .string ⟨#[99, 117, 101]⟩, .string ⟨#[109, 111, 118, 101]⟩, .string ⟨#[97, 112, 97, 114, 116]⟩] 9)
  have KT := hide (take_any (hin.rd.more hUb) hl hbig 1 _ stmtWord (texts_of stmtTexts (by decide) (by decide) hUh stmtWord stmt_texts 7))
  have HUG := hide (grown_of_below (g := some rb) hUb)
  have HTR := hide htr
  have HTG := hide htg
  have HLL := hide hl
  have HU := hide hU
  clear hc hin hU hUs hUb hUh hw htr htg htn hl hl1
  go_enter Tryz.func88, Tryz.ntmps88
  go_wp2_with fail
  rw [← HU.out]
  refine KT.out.mono ?_
  rintro e w2 ⟨hg2, hx⟩
  rw [HW.out] at hx
  obtain ⟨rfl, m2, h2, h3⟩ := hx
  obtain rfl := drop_next HTR.out h2 HL1.out
  have HG2 := hide (grown_trans HUG.out hg2)
  have HST := hide (RSt.grown HIN.out hS hR hC hA HG2.out h3 (by omega))
  have HC2 := hide (HC.out.grown HG2.out)
  have HD2 := hide h2
  have HRD := hide h3
  clear hg2 h2 h3 KT HUG HU
  have hlt : lw.toList = [115, 101, 116] := hlw
  have q0 : (lw.toList == [114, 111, 111, 102]) = false := by rw [hlt]; rfl
  have q1 : (lw.toList == [115, 101, 116]) = true := by rw [hlt]; rfl
  clear hlt
  have KS := hide (set_any HST.out (posT (L.drop n)) (by rw [HD2.out]; exact HL1.out) hbig hts HC2.out)
  rw [HD2.out, ← hlw] at KS
  go_wp2_with fail
  refine KS.out.mono ?_
  rintro e w3 ⟨hb3, hx3⟩
  have hb0 := (Below.grown (Below.refl rb u) HG2.out (Nat.le_of_lt hrbl) (fun k hk => by injection hk with hk; omega)).trans hb3
  have HB3 := hide hb0
  have hgd := body_gd h0 c0 (bs lw) r (show posT (L.drop n) = (t.line, t.col) by rw [HTR.out]; rfl) htk5 (HTR.out ▸ HLL.out)
  cases hbd : bodyR h0 c0 (bs lw) (posT (L.drop n)) r with
  | error q =>
    rw [hbd] at hx3
    simp only at hx3
    subst hx3
    refine ⟨rfl, HB3.out, ?_⟩
    rw [HE.out, hbd]
    rfl
  | ok v =>
    obtain ⟨⟨h1, c1⟩, r3⟩ := v
    rw [hbd] at hx3 hgd
    obtain ⟨rfl, m3, hd3, hst3⟩ := hx3
    have KE := hide (end_any hst3 (by rw [hd3]; exact hgd.2) hbig)
    rw [hd3] at KE
    have HEND := hide (HE.out.trans (by rw [hbd]; rfl : _ = bindR (endR r3) fun _ r => .ok ((h1, c1), r)))
    clear hgd hbd hd3 hst3 hb3 hb0 KS
    go_wp2_with fail
    refine KE.out.mono ?_
    rintro e w4 ⟨hb4, hx4⟩
    have HB4 := hide (HB3.out.trans hb4)
    cases hen : endR r3 with
    | error q =>
      rw [hen] at hx4
      simp only at hx4
      subst hx4
      refine ⟨rfl, HB4.out, ?_⟩
      rw [HEND.out, hen]
      rfl
    | ok v =>
      obtain ⟨s, r4⟩ := v
      rw [hen] at hx4
      obtain ⟨rfl, m4, hd4, hst4⟩ := hx4
      clear KE
      go_wp2_with fail
      go_end0
      refine ⟨HB4.out, ?_⟩
      rw [HEND.out, hen]
      exact ⟨rfl, m4, hd4, hst4⟩
set_option maxRecDepth 100000 in
set_option maxHeartbeats 8000000 in
theorem line_item {rb n : Nat} {tv : Value} {L : List TokD} {h0 : HouseP} {c0 : SheetP} {u w0 : World} (h : RSt rb tv L n h0 c0 u) (hl : Last5 (L.drop n)) (hbig : L.length ≤ 1000000) (hts : ∀ t ∈ L, t.text.size ≤ 1000000) (hc : Ctx w0 rb u) {lw : ByteArray} {r : List TokD} (hw : takeR 1 stmtWord (L.drop n) = .ok (lw, r)) (hlw : bs lw = wItem) :
    Calls Tryz.prog 88 #[.pointer (some ⟨rb, 0, none⟩)] u (StPost rb tv L (stmtR h0 c0 (L.drop n)) u) := by
  obtain ⟨S, R, C, A, hin, hS, hR, hC, hA⟩ := h
  obtain ⟨t, rr, htr, htg, htn, hnl⟩ := hl.head
  have hrr : r = rr ∧ t.kind = 1 := by
    rw [htr] at hw
    simp only [takeR] at hw
    split at hw
    · rename_i hk
      simp only [Except.ok.injEq, Prod.mk.injEq] at hw
      exact ⟨hw.2.symm, hk.1⟩
    · cases hw
  obtain ⟨hrr, htk⟩ := hrr
  have htk5 : t.kind ≠ 5 := by omega
  subst hrr
  have HE := hide (stmtR_of (h := h0) (c := c0) hw)
  have HW := hide hw
  have hl1 : Last5 r := Last5.tail (htr ▸ hl) htk5
  have HL1 := hide hl1
  have HIN := hide hin
  have HC := hide hc
  have hrbl := hin.rd.lt
  obtain ⟨U, hU, hUs, hUb, hUh⟩ := boxed u (.cells #[.string ⟨#[114, 111, 111, 102]⟩, .string ⟨#[115, 101, 116]⟩, .string ⟨#[105, 116, 101, 109]⟩, .string ⟨#[98, 114, 105, 99, 107]⟩, .string ⟨#[99, 117, 101]⟩, .string ⟨#[109, 111, 118, 101]⟩, .string ⟨#[97, 112, 97, 114, 116]⟩] 9)
  have KT := hide (take_any (hin.rd.more hUb) hl hbig 1 _ stmtWord (texts_of stmtTexts (by decide) (by decide) hUh stmtWord stmt_texts 7))
  have HUG := hide (grown_of_below (g := some rb) hUb)
  have HTR := hide htr
  have HTG := hide htg
  have HLL := hide hl
  have HU := hide hU
  clear hc hin hU hUs hUb hUh hw htr htg htn hl hl1
  go_enter Tryz.func88, Tryz.ntmps88
  go_wp2_with fail
  rw [← HU.out]
  refine KT.out.mono ?_
  rintro e w2 ⟨hg2, hx⟩
  rw [HW.out] at hx
  obtain ⟨rfl, m2, h2, h3⟩ := hx
  obtain rfl := drop_next HTR.out h2 HL1.out
  have HG2 := hide (grown_trans HUG.out hg2)
  have HST := hide (RSt.grown HIN.out hS hR hC hA HG2.out h3 (by omega))
  have HC2 := hide (HC.out.grown HG2.out)
  have HD2 := hide h2
  have HRD := hide h3
  clear hg2 h2 h3 KT HUG HU
  have hlt : lw.toList = [105, 116, 101, 109] := hlw
  have q0 : (lw.toList == [114, 111, 111, 102]) = false := by rw [hlt]; rfl
  have q1 : (lw.toList == [115, 101, 116]) = false := by rw [hlt]; rfl
  have q2 : (lw.toList == [105, 116, 101, 109]) = true := by rw [hlt]; rfl
  clear hlt
  have KS := hide (item_any HST.out HTG.out (by rw [HD2.out]; exact HL1.out) hbig hts HC2.out)
  rw [show ((t.line, t.col) : Int × Int) = posT (L.drop n) by rw [HTR.out]; rfl] at KS
  rw [HD2.out, ← hlw] at KS
  go_wp2_with fail
  refine KS.out.mono ?_
  rintro e w3 ⟨hb3, hx3⟩
  have hb0 := (Below.grown (Below.refl rb u) HG2.out (Nat.le_of_lt hrbl) (fun k hk => by injection hk with hk; omega)).trans hb3
  have HB3 := hide hb0
  have hgd := body_gd h0 c0 (bs lw) r (show posT (L.drop n) = (t.line, t.col) by rw [HTR.out]; rfl) htk5 (HTR.out ▸ HLL.out)
  cases hbd : bodyR h0 c0 (bs lw) (posT (L.drop n)) r with
  | error q =>
    rw [hbd] at hx3
    simp only at hx3
    subst hx3
    refine ⟨rfl, HB3.out, ?_⟩
    rw [HE.out, hbd]
    rfl
  | ok v =>
    obtain ⟨⟨h1, c1⟩, r3⟩ := v
    rw [hbd] at hx3 hgd
    obtain ⟨rfl, m3, hd3, hst3⟩ := hx3
    have KE := hide (end_any hst3 (by rw [hd3]; exact hgd.2) hbig)
    rw [hd3] at KE
    have HEND := hide (HE.out.trans (by rw [hbd]; rfl : _ = bindR (endR r3) fun _ r => .ok ((h1, c1), r)))
    clear hgd hbd hd3 hst3 hb3 hb0 KS
    go_wp2_with fail
    refine KE.out.mono ?_
    rintro e w4 ⟨hb4, hx4⟩
    have HB4 := hide (HB3.out.trans hb4)
    cases hen : endR r3 with
    | error q =>
      rw [hen] at hx4
      simp only at hx4
      subst hx4
      refine ⟨rfl, HB4.out, ?_⟩
      rw [HEND.out, hen]
      rfl
    | ok v =>
      obtain ⟨s, r4⟩ := v
      rw [hen] at hx4
      obtain ⟨rfl, m4, hd4, hst4⟩ := hx4
      clear KE
      go_wp2_with fail
      go_end0
      refine ⟨HB4.out, ?_⟩
      rw [HEND.out, hen]
      exact ⟨rfl, m4, hd4, hst4⟩
set_option maxRecDepth 100000 in
set_option maxHeartbeats 8000000 in
theorem line_brick {rb n : Nat} {tv : Value} {L : List TokD} {h0 : HouseP} {c0 : SheetP} {u w0 : World} (h : RSt rb tv L n h0 c0 u) (hl : Last5 (L.drop n)) (hbig : L.length ≤ 1000000) (hts : ∀ t ∈ L, t.text.size ≤ 1000000) (hc : Ctx w0 rb u) {lw : ByteArray} {r : List TokD} (hw : takeR 1 stmtWord (L.drop n) = .ok (lw, r)) (hlw : bs lw = wBrick) :
    Calls Tryz.prog 88 #[.pointer (some ⟨rb, 0, none⟩)] u (StPost rb tv L (stmtR h0 c0 (L.drop n)) u) := by
  obtain ⟨S, R, C, A, hin, hS, hR, hC, hA⟩ := h
  obtain ⟨t, rr, htr, htg, htn, hnl⟩ := hl.head
  have hrr : r = rr ∧ t.kind = 1 := by
    rw [htr] at hw
    simp only [takeR] at hw
    split at hw
    · rename_i hk
      simp only [Except.ok.injEq, Prod.mk.injEq] at hw
      exact ⟨hw.2.symm, hk.1⟩
    · cases hw
  obtain ⟨hrr, htk⟩ := hrr
  have htk5 : t.kind ≠ 5 := by omega
  subst hrr
  have HE := hide (stmtR_of (h := h0) (c := c0) hw)
  have HW := hide hw
  have hl1 : Last5 r := Last5.tail (htr ▸ hl) htk5
  have HL1 := hide hl1
  have HIN := hide hin
  have HC := hide hc
  have hrbl := hin.rd.lt
  obtain ⟨U, hU, hUs, hUb, hUh⟩ := boxed u (.cells #[.string ⟨#[114, 111, 111, 102]⟩, .string ⟨#[115, 101, 116]⟩, .string ⟨#[105, 116, 101, 109]⟩, .string ⟨#[98, 114, 105, 99, 107]⟩, .string ⟨#[99, 117, 101]⟩, .string ⟨#[109, 111, 118, 101]⟩, .string ⟨#[97, 112, 97, 114, 116]⟩] 9)
  have KT := hide (take_any (hin.rd.more hUb) hl hbig 1 _ stmtWord (texts_of stmtTexts (by decide) (by decide) hUh stmtWord stmt_texts 7))
  have HUG := hide (grown_of_below (g := some rb) hUb)
  have HTR := hide htr
  have HTG := hide htg
  have HLL := hide hl
  have HU := hide hU
  clear hc hin hU hUs hUb hUh hw htr htg htn hl hl1
  go_enter Tryz.func88, Tryz.ntmps88
  go_wp2_with fail
  rw [← HU.out]
  refine KT.out.mono ?_
  rintro e w2 ⟨hg2, hx⟩
  rw [HW.out] at hx
  obtain ⟨rfl, m2, h2, h3⟩ := hx
  obtain rfl := drop_next HTR.out h2 HL1.out
  have HG2 := hide (grown_trans HUG.out hg2)
  have HST := hide (RSt.grown HIN.out hS hR hC hA HG2.out h3 (by omega))
  have HC2 := hide (HC.out.grown HG2.out)
  have HD2 := hide h2
  have HRD := hide h3
  clear hg2 h2 h3 KT HUG HU
  have hlt : lw.toList = [98, 114, 105, 99, 107] := hlw
  have q0 : (lw.toList == [114, 111, 111, 102]) = false := by rw [hlt]; rfl
  have q1 : (lw.toList == [115, 101, 116]) = false := by rw [hlt]; rfl
  have q2 : (lw.toList == [105, 116, 101, 109]) = false := by rw [hlt]; rfl
  have q3 : (lw.toList == [98, 114, 105, 99, 107]) = true := by rw [hlt]; rfl
  clear hlt
  have KS := hide (brick_any HST.out HTG.out (by rw [HD2.out]; exact HL1.out) hbig hts HC2.out)
  rw [show ((t.line, t.col) : Int × Int) = posT (L.drop n) by rw [HTR.out]; rfl] at KS
  rw [HD2.out, ← hlw] at KS
  go_wp2_with fail
  refine KS.out.mono ?_
  rintro e w3 ⟨hb3, hx3⟩
  have hb0 := (Below.grown (Below.refl rb u) HG2.out (Nat.le_of_lt hrbl) (fun k hk => by injection hk with hk; omega)).trans hb3
  have HB3 := hide hb0
  have hgd := body_gd h0 c0 (bs lw) r (show posT (L.drop n) = (t.line, t.col) by rw [HTR.out]; rfl) htk5 (HTR.out ▸ HLL.out)
  cases hbd : bodyR h0 c0 (bs lw) (posT (L.drop n)) r with
  | error q =>
    rw [hbd] at hx3
    simp only at hx3
    subst hx3
    refine ⟨rfl, HB3.out, ?_⟩
    rw [HE.out, hbd]
    rfl
  | ok v =>
    obtain ⟨⟨h1, c1⟩, r3⟩ := v
    rw [hbd] at hx3 hgd
    obtain ⟨rfl, m3, hd3, hst3⟩ := hx3
    have KE := hide (end_any hst3 (by rw [hd3]; exact hgd.2) hbig)
    rw [hd3] at KE
    have HEND := hide (HE.out.trans (by rw [hbd]; rfl : _ = bindR (endR r3) fun _ r => .ok ((h1, c1), r)))
    clear hgd hbd hd3 hst3 hb3 hb0 KS
    go_wp2_with fail
    refine KE.out.mono ?_
    rintro e w4 ⟨hb4, hx4⟩
    have HB4 := hide (HB3.out.trans hb4)
    cases hen : endR r3 with
    | error q =>
      rw [hen] at hx4
      simp only at hx4
      subst hx4
      refine ⟨rfl, HB4.out, ?_⟩
      rw [HEND.out, hen]
      rfl
    | ok v =>
      obtain ⟨s, r4⟩ := v
      rw [hen] at hx4
      obtain ⟨rfl, m4, hd4, hst4⟩ := hx4
      clear KE
      go_wp2_with fail
      go_end0
      refine ⟨HB4.out, ?_⟩
      rw [HEND.out, hen]
      exact ⟨rfl, m4, hd4, hst4⟩
set_option maxRecDepth 100000 in
set_option maxHeartbeats 8000000 in
theorem line_cue {rb n : Nat} {tv : Value} {L : List TokD} {h0 : HouseP} {c0 : SheetP} {u w0 : World} (h : RSt rb tv L n h0 c0 u) (hl : Last5 (L.drop n)) (hbig : L.length ≤ 1000000) (hts : ∀ t ∈ L, t.text.size ≤ 1000000) (hc : Ctx w0 rb u) {lw : ByteArray} {r : List TokD} (hw : takeR 1 stmtWord (L.drop n) = .ok (lw, r)) (hlw : bs lw = wCue) :
    Calls Tryz.prog 88 #[.pointer (some ⟨rb, 0, none⟩)] u (StPost rb tv L (stmtR h0 c0 (L.drop n)) u) := by
  obtain ⟨S, R, C, A, hin, hS, hR, hC, hA⟩ := h
  obtain ⟨t, rr, htr, htg, htn, hnl⟩ := hl.head
  have hrr : r = rr ∧ t.kind = 1 := by
    rw [htr] at hw
    simp only [takeR] at hw
    split at hw
    · rename_i hk
      simp only [Except.ok.injEq, Prod.mk.injEq] at hw
      exact ⟨hw.2.symm, hk.1⟩
    · cases hw
  obtain ⟨hrr, htk⟩ := hrr
  have htk5 : t.kind ≠ 5 := by omega
  subst hrr
  have HE := hide (stmtR_of (h := h0) (c := c0) hw)
  have HW := hide hw
  have hl1 : Last5 r := Last5.tail (htr ▸ hl) htk5
  have HL1 := hide hl1
  have HIN := hide hin
  have HC := hide hc
  have hrbl := hin.rd.lt
  obtain ⟨U, hU, hUs, hUb, hUh⟩ := boxed u (.cells #[.string ⟨#[114, 111, 111, 102]⟩, .string ⟨#[115, 101, 116]⟩, .string ⟨#[105, 116, 101, 109]⟩, .string ⟨#[98, 114, 105, 99, 107]⟩, .string ⟨#[99, 117, 101]⟩, .string ⟨#[109, 111, 118, 101]⟩, .string ⟨#[97, 112, 97, 114, 116]⟩] 9)
  have KT := hide (take_any (hin.rd.more hUb) hl hbig 1 _ stmtWord (texts_of stmtTexts (by decide) (by decide) hUh stmtWord stmt_texts 7))
  have HUG := hide (grown_of_below (g := some rb) hUb)
  have HTR := hide htr
  have HTG := hide htg
  have HLL := hide hl
  have HU := hide hU
  clear hc hin hU hUs hUb hUh hw htr htg htn hl hl1
  go_enter Tryz.func88, Tryz.ntmps88
  go_wp2_with fail
  rw [← HU.out]
  refine KT.out.mono ?_
  rintro e w2 ⟨hg2, hx⟩
  rw [HW.out] at hx
  obtain ⟨rfl, m2, h2, h3⟩ := hx
  obtain rfl := drop_next HTR.out h2 HL1.out
  have HG2 := hide (grown_trans HUG.out hg2)
  have HST := hide (RSt.grown HIN.out hS hR hC hA HG2.out h3 (by omega))
  have HC2 := hide (HC.out.grown HG2.out)
  have HD2 := hide h2
  have HRD := hide h3
  clear hg2 h2 h3 KT HUG HU
  have hlt : lw.toList = [99, 117, 101] := hlw
  have q0 : (lw.toList == [114, 111, 111, 102]) = false := by rw [hlt]; rfl
  have q1 : (lw.toList == [115, 101, 116]) = false := by rw [hlt]; rfl
  have q2 : (lw.toList == [105, 116, 101, 109]) = false := by rw [hlt]; rfl
  have q3 : (lw.toList == [98, 114, 105, 99, 107]) = false := by rw [hlt]; rfl
  have q4 : (lw.toList == [99, 117, 101]) = true := by rw [hlt]; rfl
  clear hlt
  have KS := hide (cue_any HST.out (posT (L.drop n)) (by rw [HD2.out]; exact HL1.out) hbig hts HC2.out)
  rw [HD2.out, ← hlw] at KS
  go_wp2_with fail
  refine KS.out.mono ?_
  rintro e w3 ⟨hb3, hx3⟩
  have hb0 := (Below.grown (Below.refl rb u) HG2.out (Nat.le_of_lt hrbl) (fun k hk => by injection hk with hk; omega)).trans hb3
  have HB3 := hide hb0
  have hgd := body_gd h0 c0 (bs lw) r (show posT (L.drop n) = (t.line, t.col) by rw [HTR.out]; rfl) htk5 (HTR.out ▸ HLL.out)
  cases hbd : bodyR h0 c0 (bs lw) (posT (L.drop n)) r with
  | error q =>
    rw [hbd] at hx3
    simp only at hx3
    subst hx3
    refine ⟨rfl, HB3.out, ?_⟩
    rw [HE.out, hbd]
    rfl
  | ok v =>
    obtain ⟨⟨h1, c1⟩, r3⟩ := v
    rw [hbd] at hx3 hgd
    obtain ⟨rfl, m3, hd3, hst3⟩ := hx3
    have KE := hide (end_any hst3 (by rw [hd3]; exact hgd.2) hbig)
    rw [hd3] at KE
    have HEND := hide (HE.out.trans (by rw [hbd]; rfl : _ = bindR (endR r3) fun _ r => .ok ((h1, c1), r)))
    clear hgd hbd hd3 hst3 hb3 hb0 KS
    go_wp2_with fail
    refine KE.out.mono ?_
    rintro e w4 ⟨hb4, hx4⟩
    have HB4 := hide (HB3.out.trans hb4)
    cases hen : endR r3 with
    | error q =>
      rw [hen] at hx4
      simp only at hx4
      subst hx4
      refine ⟨rfl, HB4.out, ?_⟩
      rw [HEND.out, hen]
      rfl
    | ok v =>
      obtain ⟨s, r4⟩ := v
      rw [hen] at hx4
      obtain ⟨rfl, m4, hd4, hst4⟩ := hx4
      clear KE
      go_wp2_with fail
      go_end0
      refine ⟨HB4.out, ?_⟩
      rw [HEND.out, hen]
      exact ⟨rfl, m4, hd4, hst4⟩
set_option maxRecDepth 100000 in
set_option maxHeartbeats 8000000 in
theorem line_move {rb n : Nat} {tv : Value} {L : List TokD} {h0 : HouseP} {c0 : SheetP} {u w0 : World} (h : RSt rb tv L n h0 c0 u) (hl : Last5 (L.drop n)) (hbig : L.length ≤ 1000000) (hts : ∀ t ∈ L, t.text.size ≤ 1000000) (hc : Ctx w0 rb u) {lw : ByteArray} {r : List TokD} (hw : takeR 1 stmtWord (L.drop n) = .ok (lw, r)) (hlw : bs lw = wMove) :
    Calls Tryz.prog 88 #[.pointer (some ⟨rb, 0, none⟩)] u (StPost rb tv L (stmtR h0 c0 (L.drop n)) u) := by
  obtain ⟨S, R, C, A, hin, hS, hR, hC, hA⟩ := h
  obtain ⟨t, rr, htr, htg, htn, hnl⟩ := hl.head
  have hrr : r = rr ∧ t.kind = 1 := by
    rw [htr] at hw
    simp only [takeR] at hw
    split at hw
    · rename_i hk
      simp only [Except.ok.injEq, Prod.mk.injEq] at hw
      exact ⟨hw.2.symm, hk.1⟩
    · cases hw
  obtain ⟨hrr, htk⟩ := hrr
  have htk5 : t.kind ≠ 5 := by omega
  subst hrr
  have HE := hide (stmtR_of (h := h0) (c := c0) hw)
  have HW := hide hw
  have hl1 : Last5 r := Last5.tail (htr ▸ hl) htk5
  have HL1 := hide hl1
  have HIN := hide hin
  have HC := hide hc
  have hrbl := hin.rd.lt
  obtain ⟨U, hU, hUs, hUb, hUh⟩ := boxed u (.cells #[.string ⟨#[114, 111, 111, 102]⟩, .string ⟨#[115, 101, 116]⟩, .string ⟨#[105, 116, 101, 109]⟩, .string ⟨#[98, 114, 105, 99, 107]⟩, .string ⟨#[99, 117, 101]⟩, .string ⟨#[109, 111, 118, 101]⟩, .string ⟨#[97, 112, 97, 114, 116]⟩] 9)
  have KT := hide (take_any (hin.rd.more hUb) hl hbig 1 _ stmtWord (texts_of stmtTexts (by decide) (by decide) hUh stmtWord stmt_texts 7))
  have HUG := hide (grown_of_below (g := some rb) hUb)
  have HTR := hide htr
  have HTG := hide htg
  have HLL := hide hl
  have HU := hide hU
  clear hc hin hU hUs hUb hUh hw htr htg htn hl hl1
  go_enter Tryz.func88, Tryz.ntmps88
  go_wp2_with fail
  rw [← HU.out]
  refine KT.out.mono ?_
  rintro e w2 ⟨hg2, hx⟩
  rw [HW.out] at hx
  obtain ⟨rfl, m2, h2, h3⟩ := hx
  obtain rfl := drop_next HTR.out h2 HL1.out
  have HG2 := hide (grown_trans HUG.out hg2)
  have HST := hide (RSt.grown HIN.out hS hR hC hA HG2.out h3 (by omega))
  have HC2 := hide (HC.out.grown HG2.out)
  have HD2 := hide h2
  have HRD := hide h3
  clear hg2 h2 h3 KT HUG HU
  have hlt : lw.toList = [109, 111, 118, 101] := hlw
  have q0 : (lw.toList == [114, 111, 111, 102]) = false := by rw [hlt]; rfl
  have q1 : (lw.toList == [115, 101, 116]) = false := by rw [hlt]; rfl
  have q2 : (lw.toList == [105, 116, 101, 109]) = false := by rw [hlt]; rfl
  have q3 : (lw.toList == [98, 114, 105, 99, 107]) = false := by rw [hlt]; rfl
  have q4 : (lw.toList == [99, 117, 101]) = false := by rw [hlt]; rfl
  have q5 : (lw.toList == [109, 111, 118, 101]) = true := by rw [hlt]; rfl
  clear hlt
  have KS := hide (move_any HST.out HTG.out (by rw [HD2.out]; exact HL1.out) hbig hts HC2.out)
  rw [show ((t.line, t.col) : Int × Int) = posT (L.drop n) by rw [HTR.out]; rfl] at KS
  rw [HD2.out, ← hlw] at KS
  go_wp2_with fail
  refine KS.out.mono ?_
  rintro e w3 ⟨hb3, hx3⟩
  have hb0 := (Below.grown (Below.refl rb u) HG2.out (Nat.le_of_lt hrbl) (fun k hk => by injection hk with hk; omega)).trans hb3
  have HB3 := hide hb0
  have hgd := body_gd h0 c0 (bs lw) r (show posT (L.drop n) = (t.line, t.col) by rw [HTR.out]; rfl) htk5 (HTR.out ▸ HLL.out)
  cases hbd : bodyR h0 c0 (bs lw) (posT (L.drop n)) r with
  | error q =>
    rw [hbd] at hx3
    simp only at hx3
    subst hx3
    refine ⟨rfl, HB3.out, ?_⟩
    rw [HE.out, hbd]
    rfl
  | ok v =>
    obtain ⟨⟨h1, c1⟩, r3⟩ := v
    rw [hbd] at hx3 hgd
    obtain ⟨rfl, m3, hd3, hst3⟩ := hx3
    have KE := hide (end_any hst3 (by rw [hd3]; exact hgd.2) hbig)
    rw [hd3] at KE
    have HEND := hide (HE.out.trans (by rw [hbd]; rfl : _ = bindR (endR r3) fun _ r => .ok ((h1, c1), r)))
    clear hgd hbd hd3 hst3 hb3 hb0 KS
    go_wp2_with fail
    refine KE.out.mono ?_
    rintro e w4 ⟨hb4, hx4⟩
    have HB4 := hide (HB3.out.trans hb4)
    cases hen : endR r3 with
    | error q =>
      rw [hen] at hx4
      simp only at hx4
      subst hx4
      refine ⟨rfl, HB4.out, ?_⟩
      rw [HEND.out, hen]
      rfl
    | ok v =>
      obtain ⟨s, r4⟩ := v
      rw [hen] at hx4
      obtain ⟨rfl, m4, hd4, hst4⟩ := hx4
      clear KE
      go_wp2_with fail
      go_end0
      refine ⟨HB4.out, ?_⟩
      rw [HEND.out, hen]
      exact ⟨rfl, m4, hd4, hst4⟩
end Go.Proofs.YtnjbfhfjdhfdlaaGreatDoor
