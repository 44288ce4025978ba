/- The reader's method cue. -/
import Derived.Test.YtnjbfhfjdhfdlaaGreatDoorSrcPut9
import Derived.Test.YtnjbfhfjdhfdlaaGreatDoorSrcItem
namespace Go.Proofs.YtnjbfhfjdhfdlaaGreatDoor
open Go.RowKit

theorem put_at {rb sb n : Nat} {tv : Value} {L : List TokD} {rest : List Value} {u0 w w0 : World} {cur : Array Value} {ty : TypeId} (offs : List Nat) (h : Rd0 rb tv L n rest w) (htb : ∀ tb cap, tv = .slice (some ⟨tb, 0, none⟩) L.length cap → tb < rb) (hl : Last5 (L.drop n)) (hbig : L.length ≤ 1000000) (hts : ∀ t ∈ L, t.text.size ≤ 1000000) (hc : Ctx w0 rb w)
    (hu : u0.grownBy w (some rb)) (hsb : u0.heap.size ≤ sb) (hrb : rb < u0.heap.size) (hs : w.heap[sb]? = some (.cells cur ty (0, 0)))
    (ho : ∀ o ∈ offs, o < cur.size) (h9 : offs.length ≤ 9) (tp : TypeId) (ptrs : Array Value) (hp : ptrs.toList = offs.map fun o => .pointer (some ⟨sb, o, none⟩)) (pc : Nat) :
    Calls Tryz.prog 121 #[.pointer (some ⟨rb, 0, none⟩), .slice (some ⟨w.heap.size, 0, none⟩) offs.length pc] (w.alloc (.cells ptrs tp (0, 0))) (PutPost rb sb tv L rest cur ty offs (numsR offs.length (L.drop n)) u0) := by
  obtain ⟨U, hU, hUs, hUb, hUh⟩ := boxed w (.cells ptrs tp (0, 0))
  have hsl := (Array.getElem?_eq_some_iff.1 hs).1
  have hlo := hc.lo
  have KN := numbers_any (pb := w.heap.size) (po := 0) (pc := pc) (sb := sb) offs (h.more hUb) hl hbig hts ⟨hc.tabs, hc.bel.trans (hUb.mono hc.bel.size), hc.lo⟩ (by omega) (by omega)
    (fun tb cap e => by have := htb tb cap e; omega) (by have := hu.size; omega) (by omega) (by omega) ((hUb.block _ hsl).trans hs) ho h9
    (fun i o hi => by
      rw [Nat.zero_add, Joins.cell_of_block hUh i, ← Array.getElem?_toList, hp, List.getElem?_map, hi]; rfl)
  rw [← hU]
  refine KN.mono ?_
  rintro e w' ⟨hg, hx⟩
  refine ⟨hg.one (grown_below hu hUb) hsb, ?_⟩
  cases hn : numsR offs.length (L.drop n) with
  | error q => rw [hn] at hx; exact hx
  | ok v =>
    obtain ⟨l, r⟩ := v
    rw [hn] at hx
    exact ⟨hx.1, (Array.getElem?_eq_some_iff.1 hx.2.1).1, hx.2.1, hx.2.2⟩
/-- texts laid as a literal slice -/
theorem texts_of {U : World} {b : Nat} {tt : TypeId} (zs : List ByteArray) (hz : 0 < zs.length) (hz2 : zs.length ≤ 1000) (hU : U.heap[b]? = some (.cells (zs.map Value.string).toArray tt (0, 0))) (ok : List UInt8 → Bool) (hok : ∀ x : ByteArray, ok (bs x) = true ↔ x ∈ zs) (c : Nat) :
    TextsOf U (.slice (some ⟨b, 0, none⟩) zs.length c) ok := by
  refine Or.inr ⟨b, 0, zs, c, rfl, hz, hz2, (Array.getElem?_eq_some_iff.1 hU).1, fun j hj => ?_, fun x => ?_⟩
  · rw [Nat.zero_add, Joins.cell_of_block hU j]
    simp [hj]
  · have h1 := hok x
    have h2 := Lib.containsS_iff zs x
    cases h3 : ok (bs x) <;> cases h4 : Lib.containsS zs x <;> simp_all
def sManual : ByteArray := ⟨#[109, 97, 110, 117, 97, 108]⟩
def sFollow : ByteArray := ⟨#[102, 111, 108, 108, 111, 119]⟩
def sWith : ByteArray := ⟨#[119, 105, 116, 104]⟩
theorem bs_iff {x y : ByteArray} : bs x = bs y ↔ x = y := ⟨bs_inj, fun h => by rw [h]⟩
theorem link_texts (x : ByteArray) : linkWord (bs x) = true ↔ x ∈ [sManual, sFollow, sWith] := by
  have e1 : wManual = bs sManual := by kernel_rfl
  have e2 : wFollow = bs sFollow := by kernel_rfl
  have e3 : wWith = bs sWith := by kernel_rfl
  simp only [linkWord, e1, e2, e3, bs_iff, Bool.or_eq_true, decide_eq_true_eq, List.mem_cons, List.not_mem_nil, or_false, or_assoc]
def stmtTexts : List ByteArray := [⟨#[114, 111, 111, 102]⟩, ⟨#[115, 101, 116]⟩, ⟨#[105, 116, 101, 109]⟩, ⟨#[98, 114, 105, 99, 107]⟩, ⟨#[99, 117, 101]⟩, ⟨#[109, 111, 118, 101]⟩, ⟨#[97, 112, 97, 114, 116]⟩]
theorem stmt_texts (x : ByteArray) : stmtWord (bs x) = true ↔ x ∈ stmtTexts := by
  have e1 : wRoof = bs ⟨#[114, 111, 111, 102]⟩ := by kernel_rfl
  have e2 : wSet = bs ⟨#[115, 101, 116]⟩ := by kernel_rfl
  have e3 : wItem = bs ⟨#[105, 116, 101, 109]⟩ := by kernel_rfl
  have e4 : wBrick = bs ⟨#[98, 114, 105, 99, 107]⟩ := by kernel_rfl
  have e5 : wCue = bs ⟨#[99, 117, 101]⟩ := by kernel_rfl
  have e6 : wMove = bs ⟨#[109, 111, 118, 101]⟩ := by kernel_rfl
  have e7 : wApart = bs ⟨#[97, 112, 97, 114, 116]⟩ := by kernel_rfl
  simp only [stmtWord, stmtTexts, e1, e2, e3, e4, e5, e6, e7, bs_iff, Bool.or_eq_true, decide_eq_true_eq, List.mem_cons, List.not_mem_nil, or_false, or_assoc]
theorem cueR_nums {ts r r2 : List TokD} {nm : ByteArray} {k : Int × ByteArray} {q : Int × Int} (h : nameR ts = .ok (nm, r)) (h2 : linkR r = .ok (k, r2)) (h3 : numsR 3 r2 = .error q) : cueR ts = .error q := by rw [cueR, h]; simp only [bindR]; rw [h2]; simp only; rw [h3]
theorem cueR_ok {ts r r2 r3 : List TokD} {nm : ByteArray} {k : Int × ByteArray} {a : List Int} (h : nameR ts = .ok (nm, r)) (h2 : linkR r = .ok (k, r2)) (h3 : numsR 3 r2 = .ok (a, r3)) : cueR ts = .ok (⟨nm, k.2, k.1, nth a 0, [], nth a 1, nth a 2⟩, r3) := by rw [cueR, h]; simp only [bindR]; rw [h2]; simp only; rw [h3]
theorem infoCue : (Tryz.prog.info? 80).map (fun i => (i.zero, i.size, i.bytes)) = some (some (.agg #[.string ⟨#[]⟩, .string ⟨#[]⟩, .int .i64 0, .int .i64 0, .slice none 0 0, .int .i64 0, .int .i64 0]), 7, 88) := by kernel_rfl
set_option maxRecDepth 100000 in
set_option maxHeartbeats 8000000 in
theorem cue_any {rb n : Nat} {tv : Value} {L : List TokD} {h0 : HouseP} {c0 : SheetP} {u w0 : World} (h : RSt rb tv L n h0 c0 u) (p : Int × Int) (hl : Last5 (L.drop n)) (hbig : L.length ≤ 1000000) (hts : ∀ t ∈ L, t.text.size ≤ 1000000) (hc : Ctx w0 rb u) :
    Calls Tryz.prog 125 #[.pointer (some ⟨rb, 0, none⟩)] u (StPost rb tv L (bodyR h0 c0 wCue p (L.drop n)) u) := by
  obtain ⟨S, R, C, A, hin, hS, hR, hC, hA⟩ := h
  have HE := hide (show bodyR h0 c0 wCue p (L.drop n) = bindR (cueR (L.drop n)) fun x r => .ok ((h0, { c0 with cues := c0.cues ++ [x] }), r) by
    rw [bodyR, if_neg (by decide), if_neg (by decide), if_neg (by decide), if_neg (by decide), if_pos rfl])
  have HIN := hide hin
  have HL := hide hl
  have HC := hide hc
  have hrbl := hin.rd.lt
  clear hl hc hin
  have KN := hide (name_any HIN.out.rd HL.out hbig)
  go_enter Tryz.func125, Tryz.ntmps125
  go_wp2_with fail
  refine KN.out.mono ?_
  rintro e w2 ⟨hg2, hx⟩
  have HG2 := hide hg2
  have HX := hide hx
  clear hg2 hx
  cases hnm : nameR (L.drop n) with
  | error q =>
    have h1 := HX.out
    rw [hnm] at h1
    simp only at h1
    subst h1
    refine ⟨rfl, Below.grown (Below.refl _ _) HG2.out (Nat.le_of_lt hrbl) (fun k hk => by injection hk with hk; omega), ?_⟩
    rw [HE.out, cueR, hnm]
    rfl
  | ok v =>
    obtain ⟨nm, r⟩ := v
    have h1 := HX.out
    rw [hnm] at h1
    obtain ⟨rfl, m2, h2, h3⟩ := h1
    have hgd := name_gd (L.drop n) HL.out
    rw [hnm] at hgd
    have H5 := hide (show Last5 (L.drop m2) by rw [h2]; exact hgd.2)
    have HR2 := hide h3
    have HN := hide (And.intro hnm h2)
    clear HX h2 h3 hnm hgd KN
    go_upto_region 1 with fail
    obtain ⟨V, hV, hVs, hVb, hVh⟩ := boxed w2 (.cells #[.string nm, .string ⟨#[]⟩, .int .i64 0, .int .i64 0, .slice none 0 0, .int .i64 0, .int .i64 0] 80)
    obtain ⟨sb, hsb⟩ : ∃ b, b = w2.heap.size := ⟨_, rfl⟩
    rw [← hsb] at hVs hVh
    obtain ⟨U, hU, hUs, hUb, hUh⟩ := boxed V (.cells #[.string ⟨#[109, 97, 110, 117, 97, 108]⟩, .string ⟨#[102, 111, 108, 108, 111, 119]⟩, .string ⟨#[119, 105, 116, 104]⟩] 9)
    rw [hVs] at hUs
    have hT := texts_of [sManual, sFollow, sWith] (by decide) (by decide) hUh linkWord link_texts 3
    have hwU : Below w2.heap.size w2 U := hVb.trans (hUb.mono (by omega))
    have KT := hide (take_any (HR2.out.more hwU) H5.out hbig 1 _ linkWord hT)
    have hwUg := hide (grown_below HG2.out hwU)
    have hUV := hide ((hUb.block sb (by omega)).trans hVh)
    have HV := hide hV
    have HU := hide hU
    have HSB := hide hsb
    clear hV hU hsb hVs hVb hVh hUb hUh hT hwU
    rw [← HV.out, ← HSB.out]
    go_wp2_with fail
    rw [← HU.out]
    refine KT.out.mono ?_
    rintro e w3 ⟨hg3, hx⟩
    have HG3 := hide (grown_trans hwUg hg3)
    have HX := hide hx
    have hS3 := hide ((hg3.block sb (by omega) (fun e => by injection e with e; have := HG2.out.size; have := HSB.out; omega)).trans hUV)
    have hsb3 := hg3.size
    clear hg3 hx KT hwUg hUV
    cases htk : takeR 1 linkWord (L.drop m2) with
    | error q =>
      have h1 := HX.out
      rw [htk] at h1
      simp only at h1
      subst h1
      refine ⟨rfl, Below.grown (Below.refl _ _) HG3.out (Nat.le_of_lt hrbl) (fun k hk => by injection hk with hk; omega), ?_⟩
      rw [HE.out, cueR, HN.out.1]
      simp only [bindR]
      rw [linkR, ← HN.out.2, htk]
      rfl
    | ok v =>
      obtain ⟨lw, r2⟩ := v
      have h1 := HX.out
      rw [htk] at h1
      obtain ⟨rfl, m3, h2, h3⟩ := h1
      have hgd := (take_gd (k := 1) (by decide) linkWord (L.drop m2)) H5.out
      rw [htk] at hgd
      have H53 := hide (show Last5 (L.drop m3) by rw [h2]; exact hgd.2)
      have HR3 := hide h3
      have HN3 := hide (And.intro htk h2)
      clear HX h2 h3 htk hgd
      have hc0 : w3.cell? ⟨sb, 1, none⟩ = some (.string ⟨#[]⟩) ∧ w3.cell? ⟨sb, 2, none⟩ = some (.int .i64 0) := ⟨(Joins.cell_of_block hS3.out 1).trans rfl, (Joins.cell_of_block hS3.out 2).trans rfl⟩
      have hf0 := fun i => block_unfrozen hS3.out i
      have hsbu : u.heap.size ≤ sb := by rw [HSB.out]; exact HG2.out.size
      have hne : sb ≠ rb := by omega
      cases hq1 : (lw.toList == [109, 97, 110, 117, 97, 108])
      · have HNM := hide (show ¬ bs lw = wManual by intro h; have h' : lw.toList = [109, 97, 110, 117, 97, 108] := h; rw [h'] at hq1; exact absurd hq1 (by decide))
        cases hq2 : (lw.toList == [102, 111, 108, 108, 111, 119])
        · have HIF := hide (show (if bs lw = wFollow then (2 : Int) else 3) = 3 by rw [if_neg]; intro h; have h' : lw.toList = [102, 111, 108, 108, 111, 119] := h; rw [h'] at hq2; exact absurd hq2 (by decide))
          have KN2 := hide (name_any HR3.out H53.out hbig)
          go_wp2_with fail
          refine KN2.out.mono ?_
          rintro e w4a ⟨hg4, hx⟩
          have HG4a := hide (grown_trans HG3.out hg4)
          have HX := hide hx
          have hS4 := hide ((hg4.block sb (Array.getElem?_eq_some_iff.1 hS3.out).1 (fun e => hne (by injection e))).trans hS3.out)
          clear hg4 hx KN2 hc0 hf0
          cases hnm2 : nameR (L.drop m3) with
          | error q =>
            have h1 := HX.out
            rw [hnm2] at h1
            simp only at h1
            subst h1
            refine ⟨rfl, Below.grown (Below.refl _ _) HG4a.out (Nat.le_of_lt hrbl) (fun k hk => by injection hk with hk; omega), ?_⟩
            rw [HE.out, cueR, HN.out.1]
            simp only [bindR]
            rw [linkR, ← HN.out.2, HN3.out.1]
            simp only [bindR]
            rw [if_neg HNM.out, ← HN3.out.2, hnm2]
          | ok v =>
          obtain ⟨aft, r4⟩ := v
          have h1 := HX.out
          rw [hnm2] at h1
          obtain ⟨rfl, m4, h2, h3⟩ := h1
          have hgd := name_gd (L.drop m3) H53.out
          rw [hnm2] at hgd
          have H54 := hide (show Last5 (L.drop m4) by rw [h2]; exact hgd.2)
          have HR4a := hide h3
          have HLK := hide (show linkR (L.drop m2) = .ok ((3, aft), L.drop m4) by
            rw [linkR, HN3.out.1]; simp only [bindR]
            rw [if_neg HNM.out, ← HN3.out.2, hnm2]; simp only; rw [HIF.out, h2])
          have HM4 := hide (show m4 ≥ m2 by
            have e1 := take_less 1 linkWord (L.drop m2) _ _ HN3.out.1
            have e2 := congrArg List.length HN3.out.2
            have e3 := name_less' hnm2
            have e4 := congrArg List.length h2
            simp only [List.length_drop] at e1 e2 e3 e4
            omega)
          have hb2 := block_set (i := 2) hS4.out (.int .i64 3)
          have hc2 : w4a.cell? ⟨sb, 2, none⟩ = some (.int .i64 0) := (Joins.cell_of_block hS4.out 2).trans rfl
          have hf2 := block_unfrozen hS4.out 2
          have hc1 : (w4a.setCell ⟨sb, 2, none⟩ (.int .i64 3)).cell? ⟨sb, 1, none⟩ = some (.string ⟨#[]⟩) := (Joins.cell_of_block hb2 1).trans rfl
          have hf1 := block_unfrozen hb2 1
          have HB2 := hide hb2
          clear HX h2 h3 hnm2 hgd hb2
          go_upto_region 7 with fail
          obtain ⟨w4, hw4⟩ : ∃ w4, w4 = (w4a.setCell ⟨sb, 2, none⟩ (.int .i64 3)).setCell ⟨sb, 1, none⟩ (.string aft) := ⟨_, rfl⟩
          have HR4 := hide (show Rd0 rb tv L m4 (memRest h0.name h0.height S R C A) w4 by rw [hw4]; exact (HR4a.out.putOther hne (fun tb cap e => by have := HIN.out.low tb cap e; omega) _ _).putOther hne (fun tb cap e => by have := HIN.out.low tb cap e; omega) _ _)
          have HG4 := hide (show u.grownBy w4 (some rb) by
            rw [hw4]
            exact ⟨HG4a.out.os, HG4a.out.tape, HG4a.out.output, by simp [World.setCell]; exact HG4a.out.size, fun k hk hne => (Below.heap_setCell _ _ _ _ (by simp only; omega)).trans ((Below.heap_setCell _ _ _ _ (by simp only; omega)).trans (HG4a.out.block k hk hne))⟩)
          have HS4 := hide (show w4.heap[sb]? = some (.cells #[.string nm, .string aft, .int .i64 3, .int .i64 0, .slice none 0 0, .int .i64 0, .int .i64 0] 80 (0, 0)) by rw [hw4]; exact block_set HB2.out _)
          rw [← hw4]
          clear hw4 hc1 hf1 hc2 hf2
          have KP := hide (put_at [3, 5, 6] (cur := #[.string nm, .string aft, .int .i64 3, .int .i64 0, .slice none 0 0, .int .i64 0, .int .i64 0]) (ty := 80) HR4.out HIN.out.low H54.out hbig hts (HC.out.grown HG4.out) HG4.out hsbu hrbl HS4.out (by intro o ho; simp at ho ⊢; omega) (by decide) 155 #[.pointer (some ⟨sb, 3, none⟩), .pointer (some ⟨sb, 5, none⟩), .pointer (some ⟨sb, 6, none⟩)] rfl 3)
          go_wp2_with fail
          refine KP.out.mono ?_
          rintro e w5 ⟨hg5, hx⟩
          have HG5 := hide hg5
          have HX := hide hx
          clear hg5 hx KP
          rw [show ([3, 5, 6] : List Nat).length = 3 from rfl] at HX
          cases hns : numsR 3 (L.drop m4) with
          | error q =>
            have h1 := HX.out
            rw [hns] at h1
            simp only at h1
            subst h1
            refine ⟨rfl, Below.grown (Below.refl _ _) HG5.out (Nat.le_of_lt hrbl) (fun k hk => by injection hk with hk; omega), ?_⟩
            rw [HE.out, cueR_nums HN.out.1 (by rw [← HN.out.2]; exact HLK.out) hns]
            rfl
          | ok v =>
            obtain ⟨l, r5⟩ := v
            have h1 := HX.out
            rw [hns] at h1
            obtain ⟨rfl, hsz, h2, m5, h3, h4⟩ := h1
            have hll := numsR_len 3 hns
            obtain ⟨a1, a2, a3, rfl⟩ : ∃ a1 a2 a3, l = [a1, a2, a3] := by
              match l, hll with
              | [a1, a2, a3], _ => exact ⟨_, _, _, rfl⟩
            have HR5 := hide h4
            have hgd2 := nums_gd 3 (L.drop m4) H54.out
            rw [hns] at hgd2
            have H55 := hide (show Last5 (L.drop m5) by rw [h3]; exact hgd2.2)
            clear hgd2
            have HEND := hide (And.intro (cueR_ok HN.out.1 (by rw [← HN.out.2]; exact HLK.out) hns) (And.intro h3 hns))
            have h2 : w5.heap[sb]? = some (.cells #[.string nm, .string aft, .int .i64 3, .int .i64 a1, .slice none 0 0, .int .i64 a2, .int .i64 a3] 80 (0, 0)) := h2
            have HV5 := hide h2
            clear HX h3 h4 hns hll h2
            obtain ⟨i8, hi8, hz8, hs8, hb8⟩ := info_parts infoCue
            have HI := hide (And.intro hi8 (And.intro hz8 (And.intro hs8 hb8)))
            have hlen : n + 1 ≤ m5 := by
              have e1 := name_less' HN.out.1
              have e2 := nums_less 3 _ _ _ HEND.out.2.2
              have e3 := congrArg List.length HEND.out.2.1
              have e4 := congrArg List.length HN.out.2
              have e5 := HM4.out
              simp only [List.length_drop] at e1 e2 e3 e4
              omega
            have HIN5 := hide (HIN.out.kept HG5.out HR5.out (by omega))
            have hit0 := HIN.out.cues.2
            have hm5 : m5 ≤ 1000000 := by obtain ⟨_, _, _, _, _, h9⟩ := H55.out.head; omega
            have hrb5 := HIN5.out.rd.lt
            have c6 : w5.cell? ⟨rb, 6, none⟩ = some (.slice C.A C.l.length C.cap) := (HIN5.out.rd.cellr 4).trans rfl
            have hsb := Joins.cell_of_block HV5.out
            have hs0 := hsb 0
            have hs1 := hsb 1
            have hs2 := hsb 2
            have hs3 := hsb 3
            have hs4 := hsb 4
            have hs5 := hsb 5
            have hs6 := hsb 6
            clear hi8 hz8 hs8 hb8 hsb
            go_wp2_with fail
            go_region_law ((refine step_append_lies _ (by rfl) (.tmp 33) (.tmp 35) 26 (by rfl) (rb + 1) 80 i8 (.agg #[.string ⟨#[]⟩, .string ⟨#[]⟩, .int .i64 0, .int .i64 0, .slice none 0 0, .int .i64 0, .int .i64 0]) 7 88 Tryz.underlying26 HI.out.1 HI.out.2.1 HI.out.2.2.1 HI.out.2.2.2 rfl (by omega) C.val C.l.length (C.l.flatMap CueD.cells) (by rfl) (HIN5.out.cues.1.alloc _) ⟨w5.heap.size, 0, none⟩ 1 1 (CueD.cells ⟨nm, aft, 3, a1, ⟨none, 0, []⟩, a2, a3⟩) (by go_simp) rfl (World.news_of_block (heap_alloc_new w5 _)) (fun u hu => by simp [CueD.cells, Sl.val] at hu; rcases hu with rfl | rfl | rfl | rfl | rfl | rfl | rfl <;> rfl) (by omega) (by unfold maxLen; omega) (by omega) (by simp; omega) (w5.heap.size + 1) (by simp) ?_; intro g4 cap4 w6 hown4 hgr4 hg4 hlt4; obtain ⟨⟨cv, hcv⟩, hfr, hbel4, hin4⟩ := RIn.addCue HIN5.out rfl hown4 (undrew hgr4) hg4 (by omega)))
            all_goals
              go_end0
              refine ⟨((Below.grown (Below.refl rb u) HG5.out (Nat.le_of_lt hrbl) (fun k hk => by injection hk with hk; omega))).trans (hbel4.mono (Nat.le_refl _)), ?_⟩
              rw [HE.out, HEND.out.1]
              refine ⟨rfl, m5, HEND.out.2.1, S, R, _, A, hin4, hS, hR, ?_, hA⟩
              rw [← hC, List.map_append, List.map_singleton]
              rfl
        · have HIF := hide (show (if bs lw = wFollow then (2 : Int) else 3) = 2 by rw [if_pos (show bs lw = wFollow by simpa [bs, wFollow] using hq2)])
          have KN2 := hide (name_any HR3.out H53.out hbig)
          go_wp2_with fail
          refine KN2.out.mono ?_
          rintro e w4a ⟨hg4, hx⟩
          have HG4a := hide (grown_trans HG3.out hg4)
          have HX := hide hx
          have hS4 := hide ((hg4.block sb (Array.getElem?_eq_some_iff.1 hS3.out).1 (fun e => hne (by injection e))).trans hS3.out)
          clear hg4 hx KN2 hc0 hf0
          cases hnm2 : nameR (L.drop m3) with
          | error q =>
            have h1 := HX.out
            rw [hnm2] at h1
            simp only at h1
            subst h1
            refine ⟨rfl, Below.grown (Below.refl _ _) HG4a.out (Nat.le_of_lt hrbl) (fun k hk => by injection hk with hk; omega), ?_⟩
            rw [HE.out, cueR, HN.out.1]
            simp only [bindR]
            rw [linkR, ← HN.out.2, HN3.out.1]
            simp only [bindR]
            rw [if_neg HNM.out, ← HN3.out.2, hnm2]
          | ok v =>
          obtain ⟨aft, r4⟩ := v
          have h1 := HX.out
          rw [hnm2] at h1
          obtain ⟨rfl, m4, h2, h3⟩ := h1
          have hgd := name_gd (L.drop m3) H53.out
          rw [hnm2] at hgd
          have H54 := hide (show Last5 (L.drop m4) by rw [h2]; exact hgd.2)
          have HR4a := hide h3
          have HLK := hide (show linkR (L.drop m2) = .ok ((2, aft), L.drop m4) by
            rw [linkR, HN3.out.1]; simp only [bindR]
            rw [if_neg HNM.out, ← HN3.out.2, hnm2]; simp only; rw [HIF.out, h2])
          have HM4 := hide (show m4 ≥ m2 by
            have e1 := take_less 1 linkWord (L.drop m2) _ _ HN3.out.1
            have e2 := congrArg List.length HN3.out.2
            have e3 := name_less' hnm2
            have e4 := congrArg List.length h2
            simp only [List.length_drop] at e1 e2 e3 e4
            omega)
          have hb2 := block_set (i := 2) hS4.out (.int .i64 2)
          have hc2 : w4a.cell? ⟨sb, 2, none⟩ = some (.int .i64 0) := (Joins.cell_of_block hS4.out 2).trans rfl
          have hf2 := block_unfrozen hS4.out 2
          have hc1 : (w4a.setCell ⟨sb, 2, none⟩ (.int .i64 2)).cell? ⟨sb, 1, none⟩ = some (.string ⟨#[]⟩) := (Joins.cell_of_block hb2 1).trans rfl
          have hf1 := block_unfrozen hb2 1
          have HB2 := hide hb2
          clear HX h2 h3 hnm2 hgd hb2
          go_upto_region 7 with fail
          obtain ⟨w4, hw4⟩ : ∃ w4, w4 = (w4a.setCell ⟨sb, 2, none⟩ (.int .i64 2)).setCell ⟨sb, 1, none⟩ (.string aft) := ⟨_, rfl⟩
          have HR4 := hide (show Rd0 rb tv L m4 (memRest h0.name h0.height S R C A) w4 by rw [hw4]; exact (HR4a.out.putOther hne (fun tb cap e => by have := HIN.out.low tb cap e; omega) _ _).putOther hne (fun tb cap e => by have := HIN.out.low tb cap e; omega) _ _)
          have HG4 := hide (show u.grownBy w4 (some rb) by
            rw [hw4]
            exact ⟨HG4a.out.os, HG4a.out.tape, HG4a.out.output, by simp [World.setCell]; exact HG4a.out.size, fun k hk hne => (Below.heap_setCell _ _ _ _ (by simp only; omega)).trans ((Below.heap_setCell _ _ _ _ (by simp only; omega)).trans (HG4a.out.block k hk hne))⟩)
          have HS4 := hide (show w4.heap[sb]? = some (.cells #[.string nm, .string aft, .int .i64 2, .int .i64 0, .slice none 0 0, .int .i64 0, .int .i64 0] 80 (0, 0)) by rw [hw4]; exact block_set HB2.out _)
          rw [← hw4]
          clear hw4 hc1 hf1 hc2 hf2
          have KP := hide (put_at [3, 5, 6] (cur := #[.string nm, .string aft, .int .i64 2, .int .i64 0, .slice none 0 0, .int .i64 0, .int .i64 0]) (ty := 80) HR4.out HIN.out.low H54.out hbig hts (HC.out.grown HG4.out) HG4.out hsbu hrbl HS4.out (by intro o ho; simp at ho ⊢; omega) (by decide) 155 #[.pointer (some ⟨sb, 3, none⟩), .pointer (some ⟨sb, 5, none⟩), .pointer (some ⟨sb, 6, none⟩)] rfl 3)
          go_wp2_with fail
          refine KP.out.mono ?_
          rintro e w5 ⟨hg5, hx⟩
          have HG5 := hide hg5
          have HX := hide hx
          clear hg5 hx KP
          rw [show ([3, 5, 6] : List Nat).length = 3 from rfl] at HX
          cases hns : numsR 3 (L.drop m4) with
          | error q =>
            have h1 := HX.out
            rw [hns] at h1
            simp only at h1
            subst h1
            refine ⟨rfl, Below.grown (Below.refl _ _) HG5.out (Nat.le_of_lt hrbl) (fun k hk => by injection hk with hk; omega), ?_⟩
            rw [HE.out, cueR_nums HN.out.1 (by rw [← HN.out.2]; exact HLK.out) hns]
            rfl
          | ok v =>
            obtain ⟨l, r5⟩ := v
            have h1 := HX.out
            rw [hns] at h1
            obtain ⟨rfl, hsz, h2, m5, h3, h4⟩ := h1
            have hll := numsR_len 3 hns
            obtain ⟨a1, a2, a3, rfl⟩ : ∃ a1 a2 a3, l = [a1, a2, a3] := by
              match l, hll with
              | [a1, a2, a3], _ => exact ⟨_, _, _, rfl⟩
            have HR5 := hide h4
            have hgd2 := nums_gd 3 (L.drop m4) H54.out
            rw [hns] at hgd2
            have H55 := hide (show Last5 (L.drop m5) by rw [h3]; exact hgd2.2)
            clear hgd2
            have HEND := hide (And.intro (cueR_ok HN.out.1 (by rw [← HN.out.2]; exact HLK.out) hns) (And.intro h3 hns))
            have h2 : w5.heap[sb]? = some (.cells #[.string nm, .string aft, .int .i64 2, .int .i64 a1, .slice none 0 0, .int .i64 a2, .int .i64 a3] 80 (0, 0)) := h2
            have HV5 := hide h2
            clear HX h3 h4 hns hll h2
            obtain ⟨i8, hi8, hz8, hs8, hb8⟩ := info_parts infoCue
            have HI := hide (And.intro hi8 (And.intro hz8 (And.intro hs8 hb8)))
            have hlen : n + 1 ≤ m5 := by
              have e1 := name_less' HN.out.1
              have e2 := nums_less 3 _ _ _ HEND.out.2.2
              have e3 := congrArg List.length HEND.out.2.1
              have e4 := congrArg List.length HN.out.2
              have e5 := HM4.out
              simp only [List.length_drop] at e1 e2 e3 e4
              omega
            have HIN5 := hide (HIN.out.kept HG5.out HR5.out (by omega))
            have hit0 := HIN.out.cues.2
            have hm5 : m5 ≤ 1000000 := by obtain ⟨_, _, _, _, _, h9⟩ := H55.out.head; omega
            have hrb5 := HIN5.out.rd.lt
            have c6 : w5.cell? ⟨rb, 6, none⟩ = some (.slice C.A C.l.length C.cap) := (HIN5.out.rd.cellr 4).trans rfl
            have hsb := Joins.cell_of_block HV5.out
            have hs0 := hsb 0
            have hs1 := hsb 1
            have hs2 := hsb 2
            have hs3 := hsb 3
            have hs4 := hsb 4
            have hs5 := hsb 5
            have hs6 := hsb 6
            clear hi8 hz8 hs8 hb8 hsb
            go_wp2_with fail
            go_region_law ((refine step_append_lies _ (by rfl) (.tmp 33) (.tmp 35) 26 (by rfl) (rb + 1) 80 i8 (.agg #[.string ⟨#[]⟩, .string ⟨#[]⟩, .int .i64 0, .int .i64 0, .slice none 0 0, .int .i64 0, .int .i64 0]) 7 88 Tryz.underlying26 HI.out.1 HI.out.2.1 HI.out.2.2.1 HI.out.2.2.2 rfl (by omega) C.val C.l.length (C.l.flatMap CueD.cells) (by rfl) (HIN5.out.cues.1.alloc _) ⟨w5.heap.size, 0, none⟩ 1 1 (CueD.cells ⟨nm, aft, 2, a1, ⟨none, 0, []⟩, a2, a3⟩) (by go_simp) rfl (World.news_of_block (heap_alloc_new w5 _)) (fun u hu => by simp [CueD.cells, Sl.val] at hu; rcases hu with rfl | rfl | rfl | rfl | rfl | rfl | rfl <;> rfl) (by omega) (by unfold maxLen; omega) (by omega) (by simp; omega) (w5.heap.size + 1) (by simp) ?_; intro g4 cap4 w6 hown4 hgr4 hg4 hlt4; obtain ⟨⟨cv, hcv⟩, hfr, hbel4, hin4⟩ := RIn.addCue HIN5.out rfl hown4 (undrew hgr4) hg4 (by omega)))
            all_goals
              go_end0
              refine ⟨((Below.grown (Below.refl rb u) HG5.out (Nat.le_of_lt hrbl) (fun k hk => by injection hk with hk; omega))).trans (hbel4.mono (Nat.le_refl _)), ?_⟩
              rw [HE.out, HEND.out.1]
              refine ⟨rfl, m5, HEND.out.2.1, S, R, _, A, hin4, hS, hR, ?_, hA⟩
              rw [← hC, List.map_append, List.map_singleton]
              rfl
      · have HLK := hide (show linkR (L.drop m2) = .ok ((1, ⟨#[]⟩), L.drop m3) by
          rw [linkR, HN3.out.1]; simp only [bindR]
          rw [if_pos (show bs lw = wManual by simpa [bs, wManual] using hq1), HN3.out.2])
        go_upto_region 7 with fail
        obtain ⟨w4, hw4⟩ : ∃ w4, w4 = w3.setCell ⟨sb, 2, none⟩ (.int .i64 1) := ⟨_, rfl⟩
        have HR4 := hide (show Rd0 rb tv L m3 (memRest h0.name h0.height S R C A) w4 by rw [hw4]; exact HR3.out.putOther hne (fun tb cap e => by have := HIN.out.low tb cap e; omega) _ _)
        have HG4 := hide (show u.grownBy w4 (some rb) by
          rw [hw4]
          exact ⟨HG3.out.os, HG3.out.tape, HG3.out.output, by simp [World.setCell]; exact HG3.out.size, fun k hk hne => (Below.heap_setCell _ _ _ _ (by simp only; omega)).trans (HG3.out.block k hk hne)⟩)
        have HS4 := hide (show w4.heap[sb]? = some (.cells #[.string nm, .string ⟨#[]⟩, .int .i64 1, .int .i64 0, .slice none 0 0, .int .i64 0, .int .i64 0] 80 (0, 0)) by rw [hw4]; exact block_set hS3.out _)
        have H54 := H53
        have HM4 := hide (show m3 ≥ m2 by
          have e1 := take_less 1 linkWord (L.drop m2) _ _ HN3.out.1
          have e2 := congrArg List.length HN3.out.2
          simp only [List.length_drop] at e1 e2
          omega)
        rw [← hw4]
        clear hw4 hc0 hf0
        have KP := hide (put_at [3, 5, 6] (cur := #[.string nm, .string ⟨#[]⟩, .int .i64 1, .int .i64 0, .slice none 0 0, .int .i64 0, .int .i64 0]) (ty := 80) HR4.out HIN.out.low H54.out hbig hts (HC.out.grown HG4.out) HG4.out hsbu hrbl HS4.out (by intro o ho; simp at ho ⊢; omega) (by decide) 155 #[.pointer (some ⟨sb, 3, none⟩), .pointer (some ⟨sb, 5, none⟩), .pointer (some ⟨sb, 6, none⟩)] rfl 3)
        go_wp2_with fail
        refine KP.out.mono ?_
        rintro e w5 ⟨hg5, hx⟩
        have HG5 := hide hg5
        have HX := hide hx
        clear hg5 hx KP
        rw [show ([3, 5, 6] : List Nat).length = 3 from rfl] at HX
        cases hns : numsR 3 (L.drop m3) with
        | error q =>
          have h1 := HX.out
          rw [hns] at h1
          simp only at h1
          subst h1
          refine ⟨rfl, Below.grown (Below.refl _ _) HG5.out (Nat.le_of_lt hrbl) (fun k hk => by injection hk with hk; omega), ?_⟩
          rw [HE.out, cueR_nums HN.out.1 (by rw [← HN.out.2]; exact HLK.out) hns]
          rfl
        | ok v =>
          obtain ⟨l, r5⟩ := v
          have h1 := HX.out
          rw [hns] at h1
          obtain ⟨rfl, hsz, h2, m5, h3, h4⟩ := h1
          have hll := numsR_len 3 hns
          obtain ⟨a1, a2, a3, rfl⟩ : ∃ a1 a2 a3, l = [a1, a2, a3] := by
            match l, hll with
            | [a1, a2, a3], _ => exact ⟨_, _, _, rfl⟩
          have HR5 := hide h4
          have hgd2 := nums_gd 3 (L.drop m3) H54.out
          rw [hns] at hgd2
          have H55 := hide (show Last5 (L.drop m5) by rw [h3]; exact hgd2.2)
          clear hgd2
          have HEND := hide (And.intro (cueR_ok HN.out.1 (by rw [← HN.out.2]; exact HLK.out) hns) (And.intro h3 hns))
          have h2 : w5.heap[sb]? = some (.cells #[.string nm, .string ⟨#[]⟩, .int .i64 1, .int .i64 a1, .slice none 0 0, .int .i64 a2, .int .i64 a3] 80 (0, 0)) := h2
          have HV5 := hide h2
          clear HX h3 h4 hns hll h2
          obtain ⟨i8, hi8, hz8, hs8, hb8⟩ := info_parts infoCue
          have HI := hide (And.intro hi8 (And.intro hz8 (And.intro hs8 hb8)))
          have hlen : n + 1 ≤ m5 := by
            have e1 := name_less' HN.out.1
            have e2 := nums_less 3 _ _ _ HEND.out.2.2
            have e3 := congrArg List.length HEND.out.2.1
            have e4 := congrArg List.length HN.out.2
            have e5 := HM4.out
            simp only [List.length_drop] at e1 e2 e3 e4
            omega
          have HIN5 := hide (HIN.out.kept HG5.out HR5.out (by omega))
          have hit0 := HIN.out.cues.2
          have hm5 : m5 ≤ 1000000 := by obtain ⟨_, _, _, _, _, h9⟩ := H55.out.head; omega
          have hrb5 := HIN5.out.rd.lt
          have c6 : w5.cell? ⟨rb, 6, none⟩ = some (.slice C.A C.l.length C.cap) := (HIN5.out.rd.cellr 4).trans rfl
          have hsb := Joins.cell_of_block HV5.out
          have hs0 := hsb 0
          have hs1 := hsb 1
          have hs2 := hsb 2
          have hs3 := hsb 3
          have hs4 := hsb 4
          have hs5 := hsb 5
          have hs6 := hsb 6
          clear hi8 hz8 hs8 hb8 hsb
          go_wp2_with fail
          go_region_law ((refine step_append_lies _ (by rfl) (.tmp 33) (.tmp 35) 26 (by rfl) (rb + 1) 80 i8 (.agg #[.string ⟨#[]⟩, .string ⟨#[]⟩, .int .i64 0, .int .i64 0, .slice none 0 0, .int .i64 0, .int .i64 0]) 7 88 Tryz.underlying26 HI.out.1 HI.out.2.1 HI.out.2.2.1 HI.out.2.2.2 rfl (by omega) C.val C.l.length (C.l.flatMap CueD.cells) (by rfl) (HIN5.out.cues.1.alloc _) ⟨w5.heap.size, 0, none⟩ 1 1 (CueD.cells ⟨nm, ⟨#[]⟩, 1, a1, ⟨none, 0, []⟩, a2, a3⟩) (by go_simp) rfl (World.news_of_block (heap_alloc_new w5 _)) (fun u hu => by simp [CueD.cells, Sl.val] at hu; rcases hu with rfl | rfl | rfl | rfl | rfl | rfl | rfl <;> rfl) (by omega) (by unfold maxLen; omega) (by omega) (by simp; omega) (w5.heap.size + 1) (by simp) ?_; intro g4 cap4 w6 hown4 hgr4 hg4 hlt4; obtain ⟨⟨cv, hcv⟩, hfr, hbel4, hin4⟩ := RIn.addCue HIN5.out rfl hown4 (undrew hgr4) hg4 (by omega)))
          all_goals
            go_end0
            refine ⟨((Below.grown (Below.refl rb u) HG5.out (Nat.le_of_lt hrbl) (fun k hk => by injection hk with hk; omega))).trans (hbel4.mono (Nat.le_refl _)), ?_⟩
            rw [HE.out, HEND.out.1]
            refine ⟨rfl, m5, HEND.out.2.1, S, R, _, A, hin4, hS, hR, ?_, hA⟩
            rw [← hC, List.map_append, List.map_singleton]
            rfl
end Go.Proofs.YtnjbfhfjdhfdlaaGreatDoor
