/- The reader's methods item and brick. The reader's method move. How the rows of bricks in the reader's rows turn (written by gen_turn.py). The reader's method brick (written by gen_turn.py). The reader's method set. The reader's method cue. -/
import Derived.Test.YtnjbfhfjdhfdlaaGreatDoorSrcPut9
import Derived.Test.YtnjbfhfjdhfdlaaGreatDoorSrcToks
import Derived.Deep.RegionLaw
namespace Go.Proofs.YtnjbfhfjdhfdlaaGreatDoor
open Go.RowKit

theorem numsR_len : ∀ (k : Nat) {ts r : List TokD} {l : List Int}, numsR k ts = .ok (l, r) → l.length = k
  | 0, ts, r, l, h => by simp only [numsR, Except.ok.injEq, Prod.mk.injEq] at h; rw [← h.1]; rfl
  | k + 1, ts, r, l, h => by
    rw [nums_bind] at h
    cases h1 : numR ts with
    | error p => rw [h1] at h; simp [bindR] at h
    | ok v =>
      obtain ⟨a, r1⟩ := v
      rw [h1] at h
      simp only [bindR] at h
      cases h2 : numsR k r1 with
      | error p => rw [h2] at h; simp at h
      | ok v =>
        obtain ⟨l2, r2⟩ := v
        rw [h2] at h
        simp only [Except.ok.injEq, Prod.mk.injEq] at h
        rw [← h.1, List.length_cons, numsR_len k h2]
theorem undrew {w w' : World} {r : Option Nat} (h : w.drew.grownBy w' r) : w.grownBy w' r := ⟨h.os, h.tape, h.output, h.size, h.block⟩
theorem name_less' {ts r : List TokD} {nm : ByteArray} (h : nameR ts = .ok (nm, r)) : r.length < ts.length := take_less _ _ ts nm r h
theorem infoItem : (Tryz.prog.info? 75).map (fun i => (i.zero, i.size, i.bytes)) = some (some (.agg #[.string ⟨#[]⟩, .int .i64 0, .int .i64 0, .int .i64 0, .int .i64 0, .int .i64 0, .int .i64 0]), 7, 64) := by kernel_rfl
theorem itemR_name {ts : List TokD} {q : Int × Int} (h : nameR ts = .error q) : itemR ts = .error q := by rw [itemR, h]; rfl
theorem itemR_nums {ts r : List TokD} {nm : ByteArray} {q : Int × Int} (h : nameR ts = .ok (nm, r)) (h2 : numsR 6 r = .error q) : itemR ts = .error q := by rw [itemR, h]; simp only [bindR]; rw [h2]
theorem itemR_ok {ts r r2 : List TokD} {nm : ByteArray} {a : List Int} (h : nameR ts = .ok (nm, r)) (h2 : numsR 6 r = .ok (a, r2)) : itemR ts = .ok (⟨nm, nth a 0, nth a 1, nth a 2, nth a 3, nth a 4, nth a 5⟩, r2) := by rw [itemR, h]; simp only [bindR]; rw [h2]
set_option maxRecDepth 100000 in
set_option maxHeartbeats 8000000 in
theorem item_any {rb n : Nat} {tv : Value} {L : List TokD} {h0 : HouseP} {c0 : SheetP} {u w0 : World} (h : RSt rb tv L (n + 1) h0 c0 u) {t : TokD} (htk : L[n]? = some t) (hl : Last5 (L.drop (n + 1))) (hbig : L.length ≤ 1000000) (hts : ∀ t ∈ L, t.text.size ≤ 1000000) (hc : Ctx w0 rb u) :
    Calls Tryz.prog 123 #[.pointer (some ⟨rb, 0, none⟩)] u (StPost rb tv L (bodyR h0 c0 wItem (t.line, t.col) (L.drop (n + 1))) u) := by
  obtain ⟨S, R, C, A, hin, hS, hR, hC, hA⟩ := h
  have hbody : bodyR h0 c0 wItem (t.line, t.col) (L.drop (n + 1)) = if h0.sets = [] then .error (t.line, t.col) else bindR (itemR (L.drop (n + 1))) fun x r => .ok (({ h0 with sets := onLast (fun s => { s with items := s.items ++ [x] }) h0.sets }, c0), r) := by
    rw [bodyR, if_neg (by decide), if_neg (by decide), if_pos rfl]
  have KL := hide (last_any hin htk hbig)
  have HB := hide hbody
  have HIN := hide hin
  have HL := hide hl
  have HC := hide hc
  clear hl hc hbody hin
  obtain ⟨k, hk⟩ : ∃ k, S.l.length = k := ⟨_, rfl⟩
  cases k with
  | zero =>
    have hs0 : S.l = [] := List.eq_nil_of_length_eq_zero hk
    have HE := hide (show bodyR h0 c0 wItem (t.line, t.col) (L.drop (n + 1)) = .error (t.line, t.col) by rw [HB.out, if_pos (by rw [← hS, hs0]; rfl)])
    go_enter Tryz.func123, Tryz.ntmps123
    go_wp2_with fail
    refine KL.out.mono ?_
    rintro e w1 ⟨h1, -⟩
    obtain ⟨hg, rfl⟩ := h1 hs0
    refine ⟨rfl, Below.grown (Below.refl _ _) hg (Nat.le_of_lt HIN.out.rd.lt) (fun k hk => by injection hk with hk; omega), ?_⟩
    rw [HE.out]
  | succ m =>
    go_enter Tryz.func123, Tryz.ntmps123
    go_wp2_with fail
    refine KL.out.mono ?_
    rintro e w1 ⟨-, h2⟩
    obtain ⟨g, hg, rfl, z, rfl⟩ := h2 m hk
    have KN := hide (name_any (HIN.out.rd.more z.below) HL.out hbig)
    have HE := hide (show bodyR h0 c0 wItem (t.line, t.col) (L.drop (n + 1)) = bindR (itemR (L.drop (n + 1))) fun x r => .ok (({ h0 with sets := onLast (fun s => { s with items := s.items ++ [x] }) h0.sets }, c0), r) by
      rw [HB.out, if_neg]
      intro h0'
      rw [← hS] at h0'
      have := congrArg List.length h0'
      simp [hk] at this)
    have hgz := World.grownBy.refl u (some rb) |> fun q => grown_below q z.below
    have hrbl := HIN.out.rd.lt
    clear h2 HB KL
    go_wp2_with fail
    refine KN.out.mono ?_
    rintro e w2 ⟨hg2, hx⟩
    have HG2 := hide (grown_trans hgz hg2)
    have HX := hide hx
    clear hg2 hx hgz
    cases hnm : nameR (L.drop (n + 1)) with
    | error q =>
      have h1 := HX.out
      rw [hnm] at h1
      simp only at h1
      subst h1
      refine ⟨rfl, Below.grown (Below.refl _ _) HG2.out (Nat.le_of_lt hrbl) (fun k hk => by injection hk with hk; omega), ?_⟩
      rw [HE.out, itemR_name hnm]
      rfl
    | ok v =>
      obtain ⟨nm, r⟩ := v
      have h1 := HX.out
      rw [hnm] at h1
      obtain ⟨rfl, m2, h2, h3⟩ := h1
      have hgd := name_gd (L.drop (n + 1)) HL.out
      rw [hnm] at hgd
      have H5 := hide (show Last5 (L.drop m2) by rw [h2]; exact hgd.2)
      have HR2 := hide h3
      have HN := hide (And.intro hnm h2)
      clear HX h2 h3 hnm hgd KN
      go_upto_region 2 with fail
      have KP := hide (put_any [1, 2, 3, 4, 5, 6] (cur := #[.string nm, .int .i64 0, .int .i64 0, .int .i64 0, .int .i64 0, .int .i64 0, .int .i64 0]) (ty := 75) HR2.out HIN.out.low H5.out hbig hts (HC.out.grown HG2.out) (by intro o ho; simp at ho ⊢; omega) (by decide) 155 #[.pointer (some ⟨w2.heap.size, 1, none⟩), .pointer (some ⟨w2.heap.size, 2, none⟩), .pointer (some ⟨w2.heap.size, 3, none⟩), .pointer (some ⟨w2.heap.size, 4, none⟩), .pointer (some ⟨w2.heap.size, 5, none⟩), .pointer (some ⟨w2.heap.size, 6, none⟩)] rfl 6)
      go_wp2_with fail
      refine KP.out.mono ?_
      rintro e w3 ⟨hg3, hx⟩
      have HG3 := hide (grown_trans HG2.out hg3)
      have HX := hide hx
      obtain ⟨sb, hsb⟩ : ∃ b, b = w2.heap.size := ⟨_, rfl⟩
      have HSB := hide hsb
      clear hg3 hx KP hsb
      rw [show ([1, 2, 3, 4, 5, 6] : List Nat).length = 6 from rfl] at HX
      rw [← HSB.out] at HX
      rw [← HSB.out]
      cases hns : numsR 6 (L.drop m2) with
      | error q =>
        have h1 := HX.out
        rw [hns] at h1
        simp only at h1
        subst h1
        refine ⟨rfl, Below.grown (Below.refl _ _) HG3.out (Nat.le_of_lt hrbl) (fun k hk => by injection hk with hk; omega), ?_⟩
        rw [HE.out, itemR_nums HN.out.1 (by rw [← HN.out.2]; exact hns)]
        rfl
      | ok v =>
        obtain ⟨l, r2⟩ := v
        have h1 := HX.out
        rw [hns] at h1
        obtain ⟨rfl, hsz, h2, m3, h3, h4⟩ := h1
        have hll := numsR_len 6 hns
        obtain ⟨a1, a2, a3, a4, a5, a6, rfl⟩ : ∃ a1 a2 a3 a4 a5 a6, l = [a1, a2, a3, a4, a5, a6] := by
          match l, hll with
          | [a1, a2, a3, a4, a5, a6], _ => exact ⟨_, _, _, _, _, _, rfl⟩
        have HR3 := hide h4
        have hgd2 := nums_gd 6 (L.drop m2) H5.out
        rw [hns] at hgd2
        have H53 := hide (show Last5 (L.drop m3) by rw [h3]; exact hgd2.2)
        clear hgd2
        have HEND := hide (And.intro (itemR_ok HN.out.1 (by rw [← HN.out.2]; exact hns)) (And.intro h3 hns))
        have h2 : w3.heap[sb]? = some (.cells #[.string nm, .int .i64 a1, .int .i64 a2, .int .i64 a3, .int .i64 a4, .int .i64 a5, .int .i64 a6] 75 (0, 0)) := h2
        have HV := hide h2
        clear HX h3 h4 hns hll h2
        obtain ⟨S0, s, hS'⟩ : ∃ S0 s, S.l = S0 ++ [s] := ⟨S.l.dropLast, S.l.getLast (by intro h; rw [h] at hk; simp at hk), (List.dropLast_concat_getLast _).symm⟩
        have hm : m = S0.length := by rw [hS', List.length_append] at hk; simp at hk; omega
        subst hm
        obtain ⟨i8, hi8, hz8, hs8, hb8⟩ := info_parts infoItem
        have HI := hide (And.intro hi8 (And.intro hz8 (And.intro hs8 hb8)))
        have hlen : n + 2 ≤ m3 := by
          have e1 := name_less' HN.out.1
          have e2 := nums_less 6 _ _ _ HEND.out.2.2
          have e3 := congrArg List.length HEND.out.2.1
          have e4 := congrArg List.length HN.out.2
          simp only [List.length_drop] at e1 e2 e3 e4
          omega
        have HIN3 := hide (HIN.out.kept HG3.out HR3.out (by omega))
        have hit := (HIN3.out.items hS').2
        have hit0 := (HIN.out.items hS').2
        obtain ⟨hg1, hg2, -, hcell⟩ := HIN3.out.lastSet hS' hg
        have hcI : w3.cell? ⟨g, S0.length * 13 + 11, none⟩ = some (.slice s.items.A s.items.l.length s.items.cap) := hcell 11 _ rfl
        have hm3 : m3 ≤ 1000000 := by obtain ⟨_, _, _, _, _, h9⟩ := H53.out.head; omega
        have hsb := Joins.cell_of_block HV.out
        have hs0 := hsb 0
        have hs1 := hsb 1
        have hs2 := hsb 2
        have hs3 := hsb 3
        have hs4 := hsb 4
        have hs5 := hsb 5
        have hs6 := hsb 6
        clear hi8 hz8 hs8 hb8 hcell hsb
        go_wp2_with fail
        go_region_law ((refine step_append_lies _ (by rfl) (.tmp 22) (.tmp 24) 60 (by rfl) (rb + 1) 75 i8 (.agg #[.string ⟨#[]⟩, .int .i64 0, .int .i64 0, .int .i64 0, .int .i64 0, .int .i64 0, .int .i64 0]) 7 64 Tryz.underlying60 HI.out.1 HI.out.2.1 HI.out.2.2.1 HI.out.2.2.2 rfl (by omega) s.items.val s.items.l.length (s.items.l.flatMap ItemD.cells) (by rfl) ((HIN3.out.items hS').1.alloc _) ⟨w3.heap.size, 0, none⟩ 1 1 (ItemD.cells ⟨nm, a1, a2, a3, a4, a5, a6⟩) (by go_simp) rfl (World.news_of_block (heap_alloc_new w3 _)) (fun u hu => by simp [ItemD.cells] at hu; rcases hu with rfl | rfl | rfl | rfl | rfl | rfl | rfl <;> rfl) (by omega) (by unfold maxLen; omega) (by omega) (by simp; omega) (w3.heap.size + 1) (by simp) ?_; intro g4 cap4 w4 hown4 hgr4 hg4 hlt4; obtain ⟨⟨cv, hcv⟩, hfr, hbel4, hin4⟩ := RIn.addItem HIN3.out hS' hg hown4 (undrew hgr4) hg4 (by omega)))
        all_goals
          go_end0
          refine ⟨((Below.grown (Below.refl rb u) HG3.out (Nat.le_of_lt hrbl) (fun k hk => by injection hk with hk; omega))).trans (hbel4.mono (by omega)), ?_⟩
          rw [HE.out, HEND.out.1]
          refine ⟨rfl, m3, HEND.out.2.1, _, R, C, A, hin4, ?_, hR, hC, hA⟩
          rw [← hS, hS', List.map_append, List.map_append, List.map_singleton, List.map_singleton, onLast_end]
          rfl
end Go.Proofs.YtnjbfhfjdhfdlaaGreatDoor
namespace Go.Proofs.YtnjbfhfjdhfdlaaGreatDoor
open Go.RowKit

theorem infoMove : (Tryz.prog.info? 82).map (fun i => (i.zero, i.size, i.bytes)) = some (some (.agg #[.string ⟨#[]⟩, .int .i64 0, .int .i64 0, .int .i64 0, .int .i64 0]), 5, 48) := by kernel_rfl
theorem moveR_name {ts : List TokD} {q : Int × Int} (h : nameR ts = .error q) : moveR ts = .error q := by rw [moveR, h]; rfl
theorem moveR_nums {ts r : List TokD} {nm : ByteArray} {q : Int × Int} (h : nameR ts = .ok (nm, r)) (h2 : numsR 4 r = .error q) : moveR ts = .error q := by rw [moveR, h]; simp only [bindR]; rw [h2]
theorem moveR_ok {ts r r2 : List TokD} {nm : ByteArray} {a : List Int} (h : nameR ts = .ok (nm, r)) (h2 : numsR 4 r = .ok (a, r2)) : moveR ts = .ok (⟨nm, nth a 0, nth a 1, nth a 2, nth a 3⟩, r2) := by rw [moveR, h]; simp only [bindR]; rw [h2]
set_option maxRecDepth 100000 in
set_option maxHeartbeats 8000000 in
theorem move_any {rb n : Nat} {tv : Value} {L : List TokD} {h0 : HouseP} {c0 : SheetP} {u w0 : World} (h : RSt rb tv L (n + 1) h0 c0 u) {t : TokD} (htk : L[n]? = some t) (hl : Last5 (L.drop (n + 1))) (hbig : L.length ≤ 1000000) (hts : ∀ t ∈ L, t.text.size ≤ 1000000) (hc : Ctx w0 rb u) :
    Calls Tryz.prog 126 #[.pointer (some ⟨rb, 0, none⟩)] u (StPost rb tv L (bodyR h0 c0 wMove (t.line, t.col) (L.drop (n + 1))) u) := by
  obtain ⟨S, R, C, A, hin, hS, hR, hC, hA⟩ := h
  have hbody : bodyR h0 c0 wMove (t.line, t.col) (L.drop (n + 1)) = if c0.cues = [] then .error (t.line, t.col) else bindR (moveR (L.drop (n + 1))) fun x r => .ok ((h0, { c0 with cues := onLast (fun q => { q with moves := q.moves ++ [x] }) c0.cues }), r) := by
    rw [bodyR, if_neg (by decide), if_neg (by decide), if_neg (by decide), if_neg (by decide), if_neg (by decide), if_pos rfl]
  have HB := hide hbody
  have HIN := hide hin
  have HL := hide hl
  have HC := hide hc
  have c6u : u.cell? ⟨rb, 6, none⟩ = some (.slice C.A C.l.length C.cap) := (hin.rd.cellr 4).trans rfl
  have c1u := hin.rd.cell1
  have f1u := hin.rd.free 1
  have hrbl := hin.rd.lt
  have hn1 := (List.getElem?_eq_some_iff.1 htk).1
  have hnn : ((n + 1 : Nat) : Int) - 1 = (n : Int) := by omega
  have hn2 : (n : Int) ≤ 1000000 := by omega
  clear hl hc hbody hin
  obtain ⟨k, hk⟩ : ∃ k, C.l.length = k := ⟨_, rfl⟩
  cases k with
  | zero =>
    have hs0 : C.l = [] := List.eq_nil_of_length_eq_zero hk
    have HE := hide (show bodyR h0 c0 wMove (t.line, t.col) (L.drop (n + 1)) = .error (t.line, t.col) by rw [HB.out, if_pos (by rw [← hC, hs0]; rfl)])
    have hrd := HIN.out.rd.setAt n
    have KF := hide (fail_any hrd htk)
    have HG := hide (grown_put (w := u) (World.grownBy.refl u (some rb)) (i := 1) (v := .int .i64 (n : Int)))
    rw [hk] at c6u
    clear hrd htk
    go_enter Tryz.func126, Tryz.ntmps126
    go_wp2_with fail
    refine KF.out.mono ?_
    rintro e w1 ⟨rfl, hb⟩
    refine ⟨rfl, Below.grown (Below.refl _ _) (grown_below HG.out hb) (Nat.le_of_lt hrbl) (fun k hk => by injection hk with hk; omega), ?_⟩
    rw [HE.out]
  | succ m =>
    have KN := hide (name_any HIN.out.rd HL.out hbig)
    have HE := hide (show bodyR h0 c0 wMove (t.line, t.col) (L.drop (n + 1)) = bindR (moveR (L.drop (n + 1))) fun x r => .ok ((h0, { c0 with cues := onLast (fun q => { q with moves := q.moves ++ [x] }) c0.cues }), r) by
      rw [HB.out, if_neg]
      intro h0'
      rw [← hC] at h0'
      have := congrArg List.length h0'
      simp [hk] at this)
    obtain ⟨g, hg⟩ : ∃ g, C.A = some ⟨g, 0, none⟩ := by
      rcases own_cases HIN.out.cues.1 with ⟨_, _, h0⟩ | ⟨g, _, h1, _⟩
      · omega
      · exact ⟨g, h1⟩
    rw [hk] at c6u
    clear HB
    go_enter Tryz.func126, Tryz.ntmps126
    go_wp2_with fail
    refine KN.out.mono ?_
    rintro e w2 ⟨hg2, hx⟩
    have HG2 := hide hg2
    have HX := hide hx
    clear hg2 hx c6u c1u f1u
    cases hnm : nameR (L.drop (n + 1)) with
    | error q =>
      have h1 := HX.out
      rw [hnm] at h1
      simp only at h1
      subst h1
      refine ⟨rfl, Below.grown (Below.refl _ _) HG2.out (Nat.le_of_lt hrbl) (fun k hk => by injection hk with hk; omega), ?_⟩
      rw [HE.out, moveR_name hnm]
      rfl
    | ok v =>
      obtain ⟨nm, r⟩ := v
      have h1 := HX.out
      rw [hnm] at h1
      obtain ⟨rfl, m2, h2, h3⟩ := h1
      have hgd := name_gd (L.drop (n + 1)) HL.out
      rw [hnm] at hgd
      have H5 := hide (show Last5 (L.drop m2) by rw [h2]; exact hgd.2)
      have HR2 := hide h3
      have HN := hide (And.intro hnm h2)
      clear HX h2 h3 hnm hgd KN
      go_upto_region 4 with fail
      have KP := hide (put_any [1, 2, 3, 4] (cur := #[.string nm, .int .i64 0, .int .i64 0, .int .i64 0, .int .i64 0]) (ty := 82) HR2.out HIN.out.low H5.out hbig hts (HC.out.grown HG2.out) (by intro o ho; simp at ho ⊢; omega) (by decide) 155 #[.pointer (some ⟨w2.heap.size, 1, none⟩), .pointer (some ⟨w2.heap.size, 2, none⟩), .pointer (some ⟨w2.heap.size, 3, none⟩), .pointer (some ⟨w2.heap.size, 4, none⟩)] rfl 4)
      go_wp2_with fail
      refine KP.out.mono ?_
      rintro e w3 ⟨hg3, hx⟩
      have HG3 := hide (grown_trans HG2.out hg3)
      have HX := hide hx
      obtain ⟨sb, hsb⟩ : ∃ b, b = w2.heap.size := ⟨_, rfl⟩
      have HSB := hide hsb
      clear hg3 hx KP hsb
      rw [show ([1, 2, 3, 4] : List Nat).length = 4 from rfl] at HX
      rw [← HSB.out] at HX
      rw [← HSB.out]
      cases hns : numsR 4 (L.drop m2) with
      | error q =>
        have h1 := HX.out
        rw [hns] at h1
        simp only at h1
        subst h1
        refine ⟨rfl, Below.grown (Below.refl _ _) HG3.out (Nat.le_of_lt hrbl) (fun k hk => by injection hk with hk; omega), ?_⟩
        rw [HE.out, moveR_nums HN.out.1 (by rw [← HN.out.2]; exact hns)]
        rfl
      | ok v =>
        obtain ⟨l, r2⟩ := v
        have h1 := HX.out
        rw [hns] at h1
        obtain ⟨rfl, hsz, h2, m3, h3, h4⟩ := h1
        have hll := numsR_len 4 hns
        obtain ⟨a1, a2, a3, a4, rfl⟩ : ∃ a1 a2 a3 a4, l = [a1, a2, a3, a4] := by
          match l, hll with
          | [a1, a2, a3, a4], _ => exact ⟨_, _, _, _, rfl⟩
        have HR3 := hide h4
        have hgd2 := nums_gd 4 (L.drop m2) H5.out
        rw [hns] at hgd2
        have H53 := hide (show Last5 (L.drop m3) by rw [h3]; exact hgd2.2)
        clear hgd2
        have HEND := hide (And.intro (moveR_ok HN.out.1 (by rw [← HN.out.2]; exact hns)) (And.intro h3 hns))
        have h2 : w3.heap[sb]? = some (.cells #[.string nm, .int .i64 a1, .int .i64 a2, .int .i64 a3, .int .i64 a4] 82 (0, 0)) := h2
        have HV := hide h2
        clear HX h3 h4 hns hll h2
        obtain ⟨C0, q, hC'⟩ : ∃ C0 q, C.l = C0 ++ [q] := ⟨C.l.dropLast, C.l.getLast (by intro h; rw [h] at hk; simp at hk), (List.dropLast_concat_getLast _).symm⟩
        have hm : m = C0.length := by rw [hC', List.length_append] at hk; simp at hk; omega
        subst hm
        obtain ⟨i8, hi8, hz8, hs8, hb8⟩ := info_parts infoMove
        have HI := hide (And.intro hi8 (And.intro hz8 (And.intro hs8 hb8)))
        have hlen : n + 2 ≤ m3 := by
          have e1 := name_less' HN.out.1
          have e2 := nums_less 4 _ _ _ HEND.out.2.2
          have e3 := congrArg List.length HEND.out.2.1
          have e4 := congrArg List.length HN.out.2
          simp only [List.length_drop] at e1 e2 e3 e4
          omega
        have HIN3 := hide (HIN.out.kept HG3.out HR3.out (by omega))
        have hit0 := (HIN.out.moves hC').2
        have hcu0 := HIN.out.cues.2
        obtain ⟨hg1, hg2, -, hcell⟩ := HIN3.out.lastCue hC' hg
        have hm3 : m3 ≤ 1000000 := by obtain ⟨_, _, _, _, _, h9⟩ := H53.out.head; omega
        have hrb3 := HIN3.out.rd.lt
        have c6z : w3.cell? ⟨rb, 6, none⟩ = some (.slice (some ⟨g, 0, none⟩) (C0.length + 1) C.cap) := ((HIN3.out.rd.cellr 4).trans rfl).trans (by show some (Value.slice C.A C.l.length C.cap) = _; rw [hk, hg])
        have hm1 : ((C0.length + 1 : Nat) : Int) - 1 = (C0.length : Int) := by omega
        have hm0 : (0 : Int) ≤ (C0.length : Int) := by omega
        have hm2 : (C0.length : Int) < ((C0.length + 1 : Nat) : Int) := by omega
        clear hi8 hz8 hs8 hb8 hcell
        go_upto_region 5 with fail
        go_region
        go_wp2_with fail
        obtain ⟨y, hy, hyb⟩ : ∃ y : World, y = w3.drew ∧ Below w3.heap.size w3 y := ⟨_, rfl, (Below.refl _ _).drew⟩
        rw [← hy]
        have HINY := hide (HIN3.out.kept (grown_of_below hyb) (HIN3.out.rd.more hyb) (Nat.le_refl _))
        have HGY := hide (grown_below HG3.out hyb)
        obtain ⟨-, hg3, -, hcell2⟩ := HINY.out.lastCue hC' hg
        have hcI : y.cell? ⟨g, C0.length * 7 + 4, none⟩ = some (.slice q.moves.A q.moves.l.length q.moves.cap) := hcell2 4 _ rfl
        have hsb := Joins.cell_of_block ((hyb.block sb hsz).trans HV.out)
        have hsz2 : sb < y.heap.size := Nat.lt_of_lt_of_le hsz hyb.size
        have hs0 := hsb 0
        have hs1 := hsb 1
        have hs2 := hsb 2
        have hs3 := hsb 3
        have hs4 := hsb 4
        have hrby := HINY.out.rd.lt
        clear hsb hy hyb hcell2 c6z hg2 hsz
        go_region_law ((refine step_append_lies _ (by rfl) (.tmp 47) (.tmp 49) 78 (by rfl) (rb + 1) 82 i8 (.agg #[.string ⟨#[]⟩, .int .i64 0, .int .i64 0, .int .i64 0, .int .i64 0]) 5 48 Tryz.underlying78 HI.out.1 HI.out.2.1 HI.out.2.2.1 HI.out.2.2.2 rfl (by omega) q.moves.val q.moves.l.length (q.moves.l.flatMap MoveD.cells) (by rfl) ((HINY.out.moves hC').1.alloc _) ⟨y.heap.size, 0, none⟩ 1 1 (MoveD.cells ⟨nm, a1, a2, a3, a4⟩) (by go_simp) rfl (World.news_of_block (heap_alloc_new y _)) (fun u hu => by simp [MoveD.cells] at hu; rcases hu with rfl | rfl | rfl | rfl | rfl <;> rfl) (by omega) (by unfold maxLen; omega) (by omega) (by simp; omega) (y.heap.size + 1) (by simp) ?_; intro g4 cap4 w4 hown4 hgr4 hg4 hlt4; obtain ⟨⟨cv, hcv⟩, hfr, hbel4, hin4⟩ := RIn.addMove HINY.out hC' hg hown4 (undrew hgr4) hg4 (by omega)))
        all_goals
          go_end0
          refine ⟨((Below.grown (Below.refl rb u) HGY.out (Nat.le_of_lt hrbl) (fun k hk => by injection hk with hk; omega))).trans (hbel4.mono (by omega)), ?_⟩
          rw [HE.out, HEND.out.1]
          refine ⟨rfl, m3, HEND.out.2.1, S, R, _, A, hin4, hS, hR, ?_, hA⟩
          rw [← hC, hC', List.map_append, List.map_append, List.map_singleton, List.map_singleton, onLast_end]
          rfl
end Go.Proofs.YtnjbfhfjdhfdlaaGreatDoor
namespace Go.Proofs.YtnjbfhfjdhfdlaaGreatDoor
open Go.RowKit

def addBrickTo (s : SetD) (A : Option Addr) (cap : Nat) (x : BrickD) : SetD := { s with bricks := ⟨A, cap, s.bricks.l ++ [x]⟩ }
section
variable {rb n : Nat} {tv : Value} {L : List TokD} {nm : ByteArray} {ht : Int} {S : Sl SetD} {R : Sl RoofD} {C : Sl CueD} {A : Sl (ByteArray × ByteArray)} {w : World} {S0 : List SetD} {s : SetD}
theorem memRows_bricks (hS : S.l = S0 ++ [s]) : memRows S R C A = (⟨63, 13, S.val, S.l.length, S.l.flatMap SetD.cells⟩ :: ⟨73, 4, R.val, R.l.length, R.l.flatMap RoofD.cells⟩ :: ⟨80, 7, C.val, C.l.length, C.l.flatMap CueD.cells⟩ :: ⟨83, 2, A.val, A.l.length, A.l.flatMap pairCells⟩ :: (S0.flatMap SetD.rows ++ [⟨3, 1, s.lines.val, s.lines.l.length, s.lines.l.flatMap intCells⟩, ⟨75, 7, s.items.val, s.items.l.length, s.items.l.flatMap ItemD.cells⟩])) ++ ⟨77, 3, s.bricks.val, s.bricks.l.length, s.bricks.l.flatMap BrickD.cells⟩ :: (C.l.flatMap CueD.rows) := by
  simp [memRows, hS, SetD.rows]
theorem RIn.bricks (h : RIn rb tv L n nm ht S R C A w) (hS : S.l = S0 ++ [s]) : w.ownsRow (rb + 1) 77 3 s.bricks.val s.bricks.l.length (s.bricks.l.flatMap BrickD.cells) ∧ s.bricks.l.length ≤ n := by
  have hm : (⟨77, 3, s.bricks.val, s.bricks.l.length, s.bricks.l.flatMap BrickD.cells⟩ : Row) ∈ memRows S R C A := by rw [memRows_bricks hS]; simp
  exact ⟨h.rows.all _ hm, h.cnt _ hm⟩
theorem RIn.addBrick (h : RIn rb tv L n nm ht S R C A w) (hS : S.l = S0 ++ [s]) {g : Nat} (hA : S.A = some ⟨g, 0, none⟩) {w' : World} {g4 cap4 : Nat} {x : BrickD} {o : Obj}
    (hown : w'.ownsRow (rb + 1) 77 3 (.slice (some ⟨g4, 0, none⟩) (s.bricks.l.length + 1) cap4) (s.bricks.l.length + 1) (s.bricks.l.flatMap BrickD.cells ++ x.cells)) (hgr : (w.alloc o).grownBy w' s.bricks.val.ownBlock) (hg4 : s.bricks.val.ownBlock = some g4 ∨ g4 = w.heap.size + 1) (hn : s.bricks.l.length + 1 ≤ n) :
    (∃ v, w'.cell? ⟨g, S0.length * 13 + 12, none⟩ = some v) ∧ w'.frozen? ⟨g, S0.length * 13 + 12, none⟩ = false ∧ Below (rb + 1) w (w'.setCell ⟨g, S0.length * 13 + 12, none⟩ (.slice (some ⟨g4, 0, none⟩) (s.bricks.l.length + 1) cap4)) ∧
    RIn rb tv L n nm ht ⟨S.A, S.cap, S0 ++ [addBrickTo s (some ⟨g4, 0, none⟩) cap4 x]⟩ R C A (w'.setCell ⟨g, S0.length * 13 + 12, none⟩ (.slice (some ⟨g4, 0, none⟩) (s.bricks.l.length + 1) cap4)) := by
  obtain ⟨hg1, hg2, ⟨cur, hg3⟩, hcell⟩ := h.lastSet hS hA
  have hrows := h.rows
  rw [memRows_bricks hS] at hrows
  have hsep : ∀ k, s.bricks.val.ownBlock = some k → k ≠ g := by
    have h1 := h.rows.sep
    rw [memRows_bricks hS, List.cons_append, List.pairwise_cons] at h1
    have h2 := h1.1 ⟨77, 3, s.bricks.val, s.bricks.l.length, s.bricks.l.flatMap BrickD.cells⟩ (by simp)
    intro k hk e
    subst e
    exact h2 k (by rw [Sl.val, hA]; rfl) hk
  have hblk : w'.heap[g]? = some (.cells cur 63 (0, 0)) := by
    rw [hgr.block g (by simp; omega) (fun e => hsep g e.symm rfl), heap_alloc_old w o hg2]; exact hg3
  have hbel : Below (rb + 1) w w' := by
    have hlt := World.ownsRow.lt (h.bricks hS).1
    exact Below.grown ((Below.refl (rb + 1) w).alloc (by have := h.rd.lt; omega) o) hgr (by have := h.rd.lt; simp; omega) (fun k hk => (hlt k hk).1)
  have hbel2 : Below (rb + 1) w (w'.setCell ⟨g, S0.length * 13 + 12, none⟩ (.slice (some ⟨g4, 0, none⟩) (s.bricks.l.length + 1) cap4)) := hbel.setCell (p := ⟨g, S0.length * 13 + 12, none⟩) hg1 _
  have hcur : w'.cell? ⟨g, S0.length * 13 + 12, none⟩ = some s.bricks.val := (World.cell?_of_block (a := ⟨g, S0.length * 13 + 12, none⟩) (hblk.trans hg3.symm)).trans (hcell 12 _ rfl)
  refine ⟨⟨_, hcur⟩, block_unfrozen hblk _, hbel2, (show memRest nm ht ⟨S.A, S.cap, S0 ++ [addBrickTo s (some ⟨g4, 0, none⟩) cap4 x]⟩ R C A = memRest nm ht S R C A by simp [memRest, Sl.val, hS]) ▸ h.rd.low h.low hbel2, ?_, h.low, ?_⟩
  · have ha : Rows (rb + 1) (w.alloc o) _ := hrows.kept (row := none) (World.grownBy_alloc w o none) (fun k hk => by cases hk)
    have h1 := ha.turn (r' := ⟨77, 3, .slice (some ⟨g4, 0, none⟩) (s.bricks.l.length + 1) cap4, s.bricks.l.length + 1, s.bricks.l.flatMap BrickD.cells ++ x.cells⟩) hown hgr (fun k hk => by
      have hk' : g4 = k := by simpa [Value.ownBlock] using hk
      subst hk'
      rcases hg4 with h5 | h5
      · exact Or.inl h5
      · exact Or.inr (by simp; omega))
    have hs1 := (h1.all ⟨63, 13, S.val, S.l.length, S.l.flatMap SetD.cells⟩ (by simp))
    have h2 := Rows.turn (A := []) (r := ⟨63, 13, S.val, S.l.length, S.l.flatMap SetD.cells⟩) h1 (r' := ⟨63, 13, S.val, S.l.length, (S.l.flatMap SetD.cells).set (S0.length * 13 + 12) (.slice (some ⟨g4, 0, none⟩) (s.bricks.l.length + 1) cap4)⟩) (by
        unfold Row.lies at hs1 ⊢
        simp only at hs1 ⊢
        rw [Sl.val, hA] at hs1 ⊢
        exact own_set hs1 _) (by
        rw [Sl.val, hA]
        exact grown_put (World.grownBy.refl _ _)) (fun k hk => Or.inl hk)
    have he : (S.l.flatMap SetD.cells).set (S0.length * 13 + 12) (.slice (some ⟨g4, 0, none⟩) (s.bricks.l.length + 1) cap4) = (S0 ++ [addBrickTo s (some ⟨g4, 0, none⟩) cap4 x]).flatMap SetD.cells := by
      rw [hS]
      exact flat_set setCells_len' S0 (by simp [addBrickTo, SetD.cells])
    rw [he] at h2
    rw [memRows_bricks (S0 := S0) (s := addBrickTo s (some ⟨g4, 0, none⟩) cap4 x) rfl]
    simpa [addBrickTo, Sl.val, hS] using h2
  · intro r hr
    rw [memRows_bricks (S0 := S0) (s := addBrickTo s (some ⟨g4, 0, none⟩) cap4 x) rfl] at hr
    have h3 := h.cnt
    rw [memRows_bricks hS] at h3
    simp only [List.mem_append, List.mem_cons, addBrickTo, List.cons_append] at hr h3
    rcases hr with rfl | hr
    · have := h3 _ (Or.inl rfl)
      simp only [hS, List.length_append] at this ⊢
      exact this
    · rcases hr with rfl | hr
      · exact h3 _ (by simp)
      rcases hr with rfl | hr
      · exact h3 _ (by simp)
      rcases hr with rfl | hr
      · exact h3 _ (by simp)
      rcases hr with hr | hr
      · rcases hr with hr | rfl | hr
        · exact h3 r (by simp only [hr]; simp)
        · exact h3 _ (by simp)
        · rcases hr with rfl | hr
          · exact h3 _ (by simp)
          · cases hr
      · rcases hr with rfl | hr
        · simpa using hn
        · exact h3 r (by simp only [hr]; simp)
end
end Go.Proofs.YtnjbfhfjdhfdlaaGreatDoor
namespace Go.Proofs.YtnjbfhfjdhfdlaaGreatDoor
open Go.RowKit

theorem infoBrick : (Tryz.prog.info? 77).map (fun i => (i.zero, i.size, i.bytes)) = some (some (.agg #[.string ⟨#[]⟩, .int .i64 0, .int .i64 0]), 3, 32) := by kernel_rfl
theorem brickR_name {ts : List TokD} {q : Int × Int} (h : nameR ts = .error q) : brickR ts = .error q := by rw [brickR, h]; rfl
theorem brickR_nums {ts r : List TokD} {nm : ByteArray} {q : Int × Int} (h : nameR ts = .ok (nm, r)) (h2 : numsR 2 r = .error q) : brickR ts = .error q := by rw [brickR, h]; simp only [bindR]; rw [h2]
theorem brickR_ok {ts r r2 : List TokD} {nm : ByteArray} {a : List Int} (h : nameR ts = .ok (nm, r)) (h2 : numsR 2 r = .ok (a, r2)) : brickR ts = .ok (⟨nm, nth a 0, nth a 1⟩, r2) := by rw [brickR, h]; simp only [bindR]; rw [h2]
set_option maxRecDepth 100000 in
set_option maxHeartbeats 8000000 in
theorem brick_any {rb n : Nat} {tv : Value} {L : List TokD} {h0 : HouseP} {c0 : SheetP} {u w0 : World} (h : RSt rb tv L (n + 1) h0 c0 u) {t : TokD} (htk : L[n]? = some t) (hl : Last5 (L.drop (n + 1))) (hbig : L.length ≤ 1000000) (hts : ∀ t ∈ L, t.text.size ≤ 1000000) (hc : Ctx w0 rb u) :
    Calls Tryz.prog 124 #[.pointer (some ⟨rb, 0, none⟩)] u (StPost rb tv L (bodyR h0 c0 wBrick (t.line, t.col) (L.drop (n + 1))) u) := by
  obtain ⟨S, R, C, A, hin, hS, hR, hC, hA⟩ := h
  have hbody : bodyR h0 c0 wBrick (t.line, t.col) (L.drop (n + 1)) = if h0.sets = [] then .error (t.line, t.col) else bindR (brickR (L.drop (n + 1))) fun x r => .ok (({ h0 with sets := onLast (fun s => { s with bricks := s.bricks ++ [x] }) h0.sets }, c0), r) := by
    rw [bodyR, if_neg (by decide), if_neg (by decide), if_neg (by decide), if_pos rfl]
  have KL := hide (last_any hin htk hbig)
  have HB := hide hbody
  have HIN := hide hin
  have HL := hide hl
  have HC := hide hc
  clear hl hc hbody hin
  obtain ⟨k, hk⟩ : ∃ k, S.l.length = k := ⟨_, rfl⟩
  cases k with
  | zero =>
    have hs0 : S.l = [] := List.eq_nil_of_length_eq_zero hk
    have HE := hide (show bodyR h0 c0 wBrick (t.line, t.col) (L.drop (n + 1)) = .error (t.line, t.col) by rw [HB.out, if_pos (by rw [← hS, hs0]; rfl)])
    go_enter Tryz.func124, Tryz.ntmps124
    go_wp2_with fail
    refine KL.out.mono ?_
    rintro e w1 ⟨h1, -⟩
    obtain ⟨hg, rfl⟩ := h1 hs0
    refine ⟨rfl, Below.grown (Below.refl _ _) hg (Nat.le_of_lt HIN.out.rd.lt) (fun k hk => by injection hk with hk; omega), ?_⟩
    rw [HE.out]
  | succ m =>
    go_enter Tryz.func124, Tryz.ntmps124
    go_wp2_with fail
    refine KL.out.mono ?_
    rintro e w1 ⟨-, h2⟩
    obtain ⟨g, hg, rfl, z, rfl⟩ := h2 m hk
    have KN := hide (name_any (HIN.out.rd.more z.below) HL.out hbig)
    have HE := hide (show bodyR h0 c0 wBrick (t.line, t.col) (L.drop (n + 1)) = bindR (brickR (L.drop (n + 1))) fun x r => .ok (({ h0 with sets := onLast (fun s => { s with bricks := s.bricks ++ [x] }) h0.sets }, c0), r) by
      rw [HB.out, if_neg]
      intro h0'
      rw [← hS] at h0'
      have := congrArg List.length h0'
      simp [hk] at this)
    have hgz := World.grownBy.refl u (some rb) |> fun q => grown_below q z.below
    have hrbl := HIN.out.rd.lt
    clear h2 HB KL
    go_wp2_with fail
    refine KN.out.mono ?_
    rintro e w2 ⟨hg2, hx⟩
    have HG2 := hide (grown_trans hgz hg2)
    have HX := hide hx
    clear hg2 hx hgz
    cases hnm : nameR (L.drop (n + 1)) with
    | error q =>
      have h1 := HX.out
      rw [hnm] at h1
      simp only at h1
      subst h1
      refine ⟨rfl, Below.grown (Below.refl _ _) HG2.out (Nat.le_of_lt hrbl) (fun k hk => by injection hk with hk; omega), ?_⟩
      rw [HE.out, brickR_name hnm]
      rfl
    | ok v =>
      obtain ⟨nm, r⟩ := v
      have h1 := HX.out
      rw [hnm] at h1
      obtain ⟨rfl, m2, h2, h3⟩ := h1
      have hgd := name_gd (L.drop (n + 1)) HL.out
      rw [hnm] at hgd
      have H5 := hide (show Last5 (L.drop m2) by rw [h2]; exact hgd.2)
      have HR2 := hide h3
      have HN := hide (And.intro hnm h2)
      clear HX h2 h3 hnm hgd KN
      go_upto_region 2 with fail
      have KP := hide (put_any [1, 2] (cur := #[.string nm, .int .i64 0, .int .i64 0]) (ty := 77) HR2.out HIN.out.low H5.out hbig hts (HC.out.grown HG2.out) (by intro o ho; simp at ho ⊢; omega) (by decide) 155 #[.pointer (some ⟨w2.heap.size, 1, none⟩), .pointer (some ⟨w2.heap.size, 2, none⟩)] rfl 2)
      go_wp2_with fail
      refine KP.out.mono ?_
      rintro e w3 ⟨hg3, hx⟩
      have HG3 := hide (grown_trans HG2.out hg3)
      have HX := hide hx
      obtain ⟨sb, hsb⟩ : ∃ b, b = w2.heap.size := ⟨_, rfl⟩
      have HSB := hide hsb
      clear hg3 hx KP hsb
      rw [show ([1, 2] : List Nat).length = 2 from rfl] at HX
      rw [← HSB.out] at HX
      rw [← HSB.out]
      cases hns : numsR 2 (L.drop m2) with
      | error q =>
        have h1 := HX.out
        rw [hns] at h1
        simp only at h1
        subst h1
        refine ⟨rfl, Below.grown (Below.refl _ _) HG3.out (Nat.le_of_lt hrbl) (fun k hk => by injection hk with hk; omega), ?_⟩
        rw [HE.out, brickR_nums HN.out.1 (by rw [← HN.out.2]; exact hns)]
        rfl
      | ok v =>
        obtain ⟨l, r2⟩ := v
        have h1 := HX.out
        rw [hns] at h1
        obtain ⟨rfl, hsz, h2, m3, h3, h4⟩ := h1
        have hll := numsR_len 2 hns
        obtain ⟨a1, a2, a3, a4, a5, a6, rfl⟩ : ∃ a1 a2, l = [a1, a2] := by
          match l, hll with
          | [a1, a2], _ => exact ⟨_, _, rfl⟩
        have HR3 := hide h4
        have hgd2 := nums_gd 2 (L.drop m2) H5.out
        rw [hns] at hgd2
        have H53 := hide (show Last5 (L.drop m3) by rw [h3]; exact hgd2.2)
        clear hgd2
        have HEND := hide (And.intro (brickR_ok HN.out.1 (by rw [← HN.out.2]; exact hns)) (And.intro h3 hns))
        have h2 : w3.heap[sb]? = some (.cells #[.string nm, .int .i64 a1, .int .i64 a2] 77 (0, 0)) := h2
        have HV := hide h2
        clear HX h3 h4 hns hll h2
        obtain ⟨S0, s, hS'⟩ : ∃ S0 s, S.l = S0 ++ [s] := ⟨S.l.dropLast, S.l.getLast (by intro h; rw [h] at hk; simp at hk), (List.dropLast_concat_getLast _).symm⟩
        have hm : m = S0.length := by rw [hS', List.length_append] at hk; simp at hk; omega
        subst hm
        obtain ⟨i8, hi8, hz8, hs8, hb8⟩ := info_parts infoBrick
        have HI := hide (And.intro hi8 (And.intro hz8 (And.intro hs8 hb8)))
        have hlen : n + 2 ≤ m3 := by
          have e1 := name_less' HN.out.1
          have e2 := nums_less 2 _ _ _ HEND.out.2.2
          have e3 := congrArg List.length HEND.out.2.1
          have e4 := congrArg List.length HN.out.2
          simp only [List.length_drop] at e1 e2 e3 e4
          omega
        have HIN3 := hide (HIN.out.kept HG3.out HR3.out (by omega))
        have hit := (HIN3.out.bricks hS').2
        have hit0 := (HIN.out.bricks hS').2
        obtain ⟨hg1, hg2, -, hcell⟩ := HIN3.out.lastSet hS' hg
        have hcI : w3.cell? ⟨g, S0.length * 13 + 12, none⟩ = some (.slice s.bricks.A s.bricks.l.length s.bricks.cap) := hcell 12 _ rfl
        have hm3 : m3 ≤ 1000000 := by obtain ⟨_, _, _, _, _, h9⟩ := H53.out.head; omega
        have hsb := Joins.cell_of_block HV.out
        have hs0 := hsb 0
        have hs1 := hsb 1
        have hs2 := hsb 2
        clear hi8 hz8 hs8 hb8 hcell hsb
        go_wp2_with fail
        go_region_law ((refine step_append_lies _ (by rfl) (.tmp 18) (.tmp 20) 61 (by rfl) (rb + 1) 77 i8 (.agg #[.string ⟨#[]⟩, .int .i64 0, .int .i64 0]) 3 32 Tryz.underlying61 HI.out.1 HI.out.2.1 HI.out.2.2.1 HI.out.2.2.2 rfl (by omega) s.bricks.val s.bricks.l.length (s.bricks.l.flatMap BrickD.cells) (by rfl) ((HIN3.out.bricks hS').1.alloc _) ⟨w3.heap.size, 0, none⟩ 1 1 (BrickD.cells ⟨nm, a1, a2⟩) (by go_simp) rfl (World.news_of_block (heap_alloc_new w3 _)) (fun u hu => by simp [BrickD.cells] at hu; rcases hu with rfl | rfl | rfl <;> rfl) (by omega) (by unfold maxLen; omega) (by omega) (by simp; omega) (w3.heap.size + 1) (by simp) ?_; intro g4 cap4 w4 hown4 hgr4 hg4 hlt4; obtain ⟨⟨cv, hcv⟩, hfr, hbel4, hin4⟩ := RIn.addBrick HIN3.out hS' hg hown4 (undrew hgr4) hg4 (by omega)))
        all_goals
          go_end0
          refine ⟨((Below.grown (Below.refl rb u) HG3.out (Nat.le_of_lt hrbl) (fun k hk => by injection hk with hk; omega))).trans (hbel4.mono (by omega)), ?_⟩
          rw [HE.out, HEND.out.1]
          refine ⟨rfl, m3, HEND.out.2.1, _, R, C, A, hin4, ?_, hR, hC, hA⟩
          rw [← hS, hS', List.map_append, List.map_append, List.map_singleton, List.map_singleton, onLast_end]
          rfl
end Go.Proofs.YtnjbfhfjdhfdlaaGreatDoor
namespace Go.Proofs.YtnjbfhfjdhfdlaaGreatDoor
open Go.RowKit

theorem setR_name {ts : List TokD} {q : Int × Int} (h : nameR ts = .error q) : setR ts = .error q := by rw [setR, h]; rfl
theorem setR_nums {ts r : List TokD} {nm : ByteArray} {q : Int × Int} (h : nameR ts = .ok (nm, r)) (h2 : numsR 9 r = .error q) : setR ts = .error q := by rw [setR, h]; simp only [bindR]; rw [h2]
theorem setR_more {ts r r2 : List TokD} {nm : ByteArray} {a : List Int} {q : Int × Int} (h : nameR ts = .ok (nm, r)) (h2 : numsR 9 r = .ok (a, r2)) (h3 : moreR r2.length r2 = .error q) : setR ts = .error q := by rw [setR, h]; simp only [bindR]; rw [h2]; simp only; rw [h3]
theorem setR_ok {ts r r2 r3 : List TokD} {nm : ByteArray} {a l : List Int} (h : nameR ts = .ok (nm, r)) (h2 : numsR 9 r = .ok (a, r2)) (h3 : moreR r2.length r2 = .ok (l, r3)) : setR ts = .ok (⟨nm, nth a 0, nth a 1, nth a 2, nth a 3, l, nth a 4, nth a 5, nth a 6, nth a 7, nth a 8, [], []⟩, r3) := by rw [setR, h]; simp only [bindR]; rw [h2]; simp only; rw [h3]
theorem grown_drew {w w' : World} {r : Option Nat} (h : w.grownBy w' r) : w.grownBy w'.drew r := ⟨h.os, h.tape, h.output, h.size, h.block⟩
theorem list_succ {α : Type} {k : Nat} {l : List α} (h : l.length = k + 1) : ∃ a t, l = a :: t ∧ t.length = k := by
  cases l with
  | nil => cases h
  | cons a t => exact ⟨a, t, rfl, by simpa using h⟩
theorem setBox9 {nm : ByteArray} {ty : TypeId} {x : Option Obj} (a : List Int) (hll : a.length = 9) (h : x = some (.cells (putN #[.string nm, .int .i64 0, .int .i64 0, .int .i64 0, .int .i64 0, .slice none 0 0, .int .i64 0, .int .i64 0, .int .i64 0, .int .i64 0, .int .i64 0, .slice none 0 0, .slice none 0 0] [1, 2, 3, 4, 6, 7, 8, 9, 10] a) ty (0, 0))) : x = some (.cells (setBox nm a (.slice none 0 0)) ty (0, 0)) := by
  obtain ⟨a1, t1, rfl, h1⟩ := list_succ hll
  obtain ⟨a2, t2, rfl, h2⟩ := list_succ h1
  obtain ⟨a3, t3, rfl, h3⟩ := list_succ h2
  obtain ⟨a4, t4, rfl, h4⟩ := list_succ h3
  obtain ⟨a5, t5, rfl, h5⟩ := list_succ h4
  obtain ⟨a6, t6, rfl, h6⟩ := list_succ h5
  obtain ⟨a7, t7, rfl, h7⟩ := list_succ h6
  obtain ⟨a8, t8, rfl, h8⟩ := list_succ h7
  obtain ⟨a9, t9, rfl, h9⟩ := list_succ h8
  obtain rfl := List.eq_nil_of_length_eq_zero h9
  rw [putN_set] at h
  exact h
/-- a region's way that ends (by a panic): nothing follows -/
theorem dead_end {G : Prop} {md : Region.Mode} {a : Act} {w : World} (h : G) (_ : wpAny Tryz.prog md #[] (fun _ _ _ => True) 0 #[] a w) : G := h
theorem infoInt : (Tryz.prog.info? 3).map (fun i => (i.zero, i.size, i.bytes)) = some (some (.int .i64 0), 1, 8) := by kernel_rfl
theorem infoSet : (Tryz.prog.info? 63).map (fun i => (i.zero, i.size, i.bytes)) = some (some (.agg #[.string ⟨#[]⟩, .int .i64 0, .int .i64 0, .int .i64 0, .int .i64 0, .slice none 0 0, .int .i64 0, .int .i64 0, .int .i64 0, .int .i64 0, .int .i64 0, .slice none 0 0, .slice none 0 0]), 13, 160) := by kernel_rfl
set_option maxRecDepth 100000 in
set_option maxHeartbeats 8000000 in
theorem set_any {rb n : Nat} {tv : Value} {L : List TokD} {h0 : HouseP} {c0 : SheetP} {u w0 : World} (h : RSt rb tv L n h0 c0 u) (p : Int × Int) (hl : Last5 (L.drop n)) (hbig : L.length ≤ 1000000) (hts : ∀ t ∈ L, t.text.size ≤ 1000000) (hc : Ctx w0 rb u) :
    Calls Tryz.prog 122 #[.pointer (some ⟨rb, 0, none⟩)] u (StPost rb tv L (bodyR h0 c0 wSet p (L.drop n)) u) := by
  obtain ⟨S, R, C, A, hin, hS, hR, hC, hA⟩ := h
  have HE := hide (show bodyR h0 c0 wSet p (L.drop n) = bindR (setR (L.drop n)) fun x r => .ok (({ h0 with sets := h0.sets ++ [x] }, c0), r) by
    rw [bodyR, if_neg (by decide), if_pos rfl])
  have HIN := hide hin
  have HL := hide hl
  have HC := hide hc
  have hrbl := hin.rd.lt
  clear hl hc hin
  have KN := hide (name_any HIN.out.rd HL.out hbig)
  go_enter Tryz.func122, Tryz.ntmps122
  go_wp2_with fail
  refine KN.out.mono ?_
  rintro e w2 ⟨hg2, hx⟩
  have HG2 := hide hg2
  have HX := hide hx
  clear hg2 hx
  cases hnm : nameR (L.drop n) with
  | error q =>
    have h1 := HX.out
    rw [hnm] at h1
    simp only at h1
    subst h1
    refine ⟨rfl, Below.grown (Below.refl _ _) HG2.out (Nat.le_of_lt hrbl) (fun k hk => by injection hk with hk; omega), ?_⟩
    rw [HE.out, setR_name hnm]
    rfl
  | ok v =>
    obtain ⟨nm, r⟩ := v
    have h1 := HX.out
    rw [hnm] at h1
    obtain ⟨rfl, m2, h2, h3⟩ := h1
    have hgd := name_gd (L.drop n) HL.out
    rw [hnm] at hgd
    have H5 := hide (show Last5 (L.drop m2) by rw [h2]; exact hgd.2)
    have HR2 := hide h3
    have HN := hide (And.intro hnm h2)
    clear HX h2 h3 hnm hgd KN
    go_upto_region 1 with fail
    have KP := hide (put_any [1, 2, 3, 4, 6, 7, 8, 9, 10] (cur := #[.string nm, .int .i64 0, .int .i64 0, .int .i64 0, .int .i64 0, .slice none 0 0, .int .i64 0, .int .i64 0, .int .i64 0, .int .i64 0, .int .i64 0, .slice none 0 0, .slice none 0 0]) (ty := 63) HR2.out HIN.out.low H5.out hbig hts (HC.out.grown HG2.out) (by intro o ho; simp at ho ⊢; omega) (by decide) 155 #[.pointer (some ⟨w2.heap.size, 1, none⟩), .pointer (some ⟨w2.heap.size, 2, none⟩), .pointer (some ⟨w2.heap.size, 3, none⟩), .pointer (some ⟨w2.heap.size, 4, none⟩), .pointer (some ⟨w2.heap.size, 6, none⟩), .pointer (some ⟨w2.heap.size, 7, none⟩), .pointer (some ⟨w2.heap.size, 8, none⟩), .pointer (some ⟨w2.heap.size, 9, none⟩), .pointer (some ⟨w2.heap.size, 10, none⟩)] rfl 9)
    go_wp2_with fail
    refine KP.out.mono ?_
    rintro e w3 ⟨hg3, hx⟩
    have HG3 := hide (grown_trans HG2.out hg3)
    have HX := hide hx
    obtain ⟨sb, hsb⟩ : ∃ b, b = w2.heap.size := ⟨_, rfl⟩
    have HSB := hide hsb
    clear hg3 hx KP hsb
    rw [show ([1, 2, 3, 4, 6, 7, 8, 9, 10] : List Nat).length = 9 from rfl] at HX
    rw [← HSB.out] at HX
    rw [← HSB.out]
    cases hns : numsR 9 (L.drop m2) with
    | error q =>
      have h1 := HX.out
      rw [hns] at h1
      simp only at h1
      subst h1
      refine ⟨rfl, Below.grown (Below.refl _ _) HG3.out (Nat.le_of_lt hrbl) (fun k hk => by injection hk with hk; omega), ?_⟩
      rw [HE.out, setR_nums HN.out.1 (by rw [← HN.out.2]; exact hns)]
      rfl
    | ok v =>
      obtain ⟨a, r2⟩ := v
      have h1 := HX.out
      rw [hns] at h1
      obtain ⟨rfl, hsz, h2, m3, h3, h4⟩ := h1
      have hll := numsR_len 9 hns
      have hbox := setBox9 a hll h2
      have HR3 := hide h4
      have hgd2 := nums_gd 9 (L.drop m2) H5.out
      rw [hns] at hgd2
      have H53 := hide (show Last5 (L.drop m3) by rw [h3]; exact hgd2.2)
      have hlen : n + 1 ≤ m3 := by
        have e1 := name_less' HN.out.1
        have e2 := nums_less 9 _ _ _ hns
        have e3 := congrArg List.length h3
        have e4 := congrArg List.length HN.out.2
        obtain ⟨_, _, _, _, _, h9⟩ := H53.out.head
        simp only [List.length_drop] at e1 e2 e3 e4
        omega
      have HIN3 := hide (HIN.out.kept HG3.out HR3.out (by omega))
      have hsbu : u.heap.size ≤ sb := by rw [HSB.out]; exact HG2.out.size
      have HST := hide (show SetSt rb sb tv L h0.name h0.height S R C A u nm a (.slice none ([] : List Int).length 0) [] m3 w3 from
        ⟨HIN3.out, HIN3.out.rows.nil_cons 3 1, hbox, HG3.out, fun k hk => by simp [Value.ownBlock] at hk, Nat.zero_le _⟩)
      have HNS := hide (And.intro (show numsR 9 r = .ok (a, r2) by rw [← HN.out.2]; exact hns) h3)
      have HSEP := hide (show ∀ r ∈ memRows S R C A, r.v.ownBlock ≠ some sb from fun r hr e => by
        have h1 := World.ownsRow.lt (HIN.out.rows.all r hr) sb e
        omega)
      have hne : sb ≠ rb := by omega
      clear hgd2 HX h2 h3 h4 hns hll hbox
      obtain ⟨i8, hi8, hz8, hs8, hb8⟩ := info_parts infoInt
      have HI := hide (And.intro hi8 (And.intro hz8 (And.intro hs8 hb8)))
      clear hi8 hz8 hs8 hb8
      go_wp2_with fail
      go_loopw [3] (fun v wr => ∃ (l : List Int) (lA : Option Addr) (lc m : Nat) (more : Bool), v = .bool more ∧ Hid (n + 1 + l.length ≤ m) ∧ Hid (SetSt rb sb tv L h0.name h0.height S R C A u nm a (.slice lA l.length lc) l m wr) ∧ Hid (Last5 (L.drop m)) ∧ Hid (MoreTo (L.drop m3).length (L.drop m3) l more (L.drop m))) (fun _ wr => L.length - numAt wr ⟨rb, 1, none⟩)
      case atStart => exact ⟨[], none, 0, m3, true, rfl, hide (by simpa using hlen), HST, H53, hide (MoreTo.start _)⟩
      case round =>
        obtain ⟨l, lA, lc, m, more, rfl, hcn, hst, h5, hmo⟩ := hrel
        cases more with
        | false =>
          obtain ⟨i9, hi9, hz9, hs9, hb9⟩ := info_parts infoSet
          have HI9 := hide (And.intro hi9 (And.intro hz9 (And.intro hs9 hb9)))
          have hcnt := hcn.out
          have hset0 : S.l.length ≤ n := HIN.out.cnt ⟨63, 13, S.val, S.l.length, S.l.flatMap SetD.cells⟩ (by unfold memRows; exact List.mem_cons_self)
          have hm1 : m ≤ 1000000 := by obtain ⟨_, _, _, _, _, h9⟩ := h5.out.head; omega
          have hrb5 := hst.out.rin.rd.lt
          have c6 : wr.cell? ⟨rb, 4, none⟩ = some (.slice S.A S.l.length S.cap) := (hst.out.rin.rd.cellr 2).trans rfl
          have hsb := Joins.cell_of_block hst.out.box
          have hs0 : wr.cell? ⟨sb, 0, none⟩ = some (.string nm) := (hsb 0).trans rfl
          have hs1 : wr.cell? ⟨sb, 1, none⟩ = some (.int .i64 (nth a 0)) := (hsb 1).trans rfl
          have hs2 : wr.cell? ⟨sb, 2, none⟩ = some (.int .i64 (nth a 1)) := (hsb 2).trans rfl
          have hs3 : wr.cell? ⟨sb, 3, none⟩ = some (.int .i64 (nth a 2)) := (hsb 3).trans rfl
          have hs4 : wr.cell? ⟨sb, 4, none⟩ = some (.int .i64 (nth a 3)) := (hsb 4).trans rfl
          have hs5 : wr.cell? ⟨sb, 5, none⟩ = some (.slice lA l.length lc) := (hsb 5).trans rfl
          have hs6 : wr.cell? ⟨sb, 6, none⟩ = some (.int .i64 (nth a 4)) := (hsb 6).trans rfl
          have hs7 : wr.cell? ⟨sb, 7, none⟩ = some (.int .i64 (nth a 5)) := (hsb 7).trans rfl
          have hs8 : wr.cell? ⟨sb, 8, none⟩ = some (.int .i64 (nth a 6)) := (hsb 8).trans rfl
          have hs9 : wr.cell? ⟨sb, 9, none⟩ = some (.int .i64 (nth a 7)) := (hsb 9).trans rfl
          have hs10 : wr.cell? ⟨sb, 10, none⟩ = some (.int .i64 (nth a 8)) := (hsb 10).trans rfl
          have hs11 : wr.cell? ⟨sb, 11, none⟩ = some (.slice none 0 0) := (hsb 11).trans rfl
          have hs12 : wr.cell? ⟨sb, 12, none⟩ = some (.slice none 0 0) := (hsb 12).trans rfl
          clear hi9 hz9 hb9 hsb
          go_wp2_with fail
          go_region_law ((refine step_append_lies _ (by rfl) (.tmp 36) (.tmp 38) 22 (by rfl) (rb + 1) 63 i9 (.agg #[.string ⟨#[]⟩, .int .i64 0, .int .i64 0, .int .i64 0, .int .i64 0, .slice none 0 0, .int .i64 0, .int .i64 0, .int .i64 0, .int .i64 0, .int .i64 0, .slice none 0 0, .slice none 0 0]) 13 160 Tryz.underlying22 HI9.out.1 HI9.out.2.1 HI9.out.2.2.1 HI9.out.2.2.2 rfl (by omega) S.val S.l.length (S.l.flatMap SetD.cells) (by rfl) (hst.out.rin.sets.alloc _) ⟨wr.heap.size, 0, none⟩ 1 1 (SetD.cells ⟨nm, nth a 0, nth a 1, nth a 2, nth a 3, ⟨lA, lc, l⟩, nth a 4, nth a 5, nth a 6, nth a 7, nth a 8, ⟨none, 0, []⟩, ⟨none, 0, []⟩⟩) (by go_simp) rfl (World.news_of_block (heap_alloc_new wr _)) (fun u hu => by simp [SetD.cells] at hu; rcases hu with rfl | rfl | rfl | rfl | rfl | rfl | rfl | rfl | rfl | rfl | rfl | rfl | rfl <;> rfl) (by omega) (by unfold maxLen; omega) (by omega) (by simp; omega) (wr.heap.size + 1) (by simp) ?_; intro g4 cap4 w6 hown4 hgr4 hg4 hlt4; obtain ⟨⟨cv, hcv⟩, hfr, hbel4, hin4⟩ := RIn.addSet (s := ⟨nm, nth a 0, nth a 1, nth a 2, nth a 3, ⟨lA, lc, l⟩, nth a 4, nth a 5, nth a 6, nth a 7, nth a 8, ⟨none, 0, []⟩, ⟨none, 0, []⟩⟩) hst.out.rin rfl rfl hst.out.rows hst.out.cnt hown4 (undrew hgr4) hg4 (by omega)))
          all_goals
            go_end0
            refine ⟨((Below.grown (Below.refl rb u) hst.out.frame (Nat.le_of_lt hrbl) (fun k hk => by injection hk with hk; omega))).trans (hbel4.mono (Nat.le_refl _)), ?_⟩
            rw [HE.out, setR_ok HN.out.1 HNS.out.1 (by rw [← HNS.out.2]; exact hmo.out)]
            refine ⟨rfl, m, rfl, _, R, C, A, hin4, ?_, hR, hC, hA⟩
            rw [← hS, List.map_append, List.map_singleton]
            rfl
        | true =>
          have hcnt := hcn.out
          obtain ⟨t5, r5, _, _, _, hml⟩ := h5.out.head
          have KN := hide (number_any (u := wr.drew) ⟨hst.out.rin.rd.box, hst.out.rin.rd.toks⟩ h5.out hbig hts (HC.out.grown (grown_drew hst.out.frame)))
          cases hv : numR (L.drop m) with
          | error q =>
            have KE := hide (show Calls Tryz.prog 86 #[.pointer (some ⟨rb, 0, none⟩)] wr.drew (fun e w' => wr.drew.grownBy w' (some rb) ∧ e = .panicked [{ v := .iface 131 (.agg #[.int .i64 q.1, .int .i64 q.2]), recovered := false }]) from KN.out.mono (fun e w' h => by
              have h1 := h.2
              rw [hv] at h1
              exact ⟨h.1, h1⟩))
            have HF := hide (setR_more HN.out.1 HNS.out.1 (by rw [← HNS.out.2]; exact hmo.out.err h5.out.ne hv))
            have cl : wr.cell? ⟨sb, 5, none⟩ = some (.slice lA l.length lc) := (Joins.cell_of_block hst.out.box 5).trans rfl
            clear KN
            go_wp2_with fail
            go_region_law ((go_simp; go_at_call 86; refine KE.out.mono ?_; rintro e w1 ⟨hg1, rfl⟩; refine dead_end (md := .any) (a := ⟨#[], []⟩) (w := w1) ?_ ?_; focus (go_simp; exact ⟨rfl, Below.grown (Below.refl _ _) (grown_trans hst.out.frame (undrew hg1)) (Nat.le_of_lt hrbl) (fun k hk => by injection hk with hk; omega), by rw [HE.out, HF.out]; rfl⟩)))
            all_goals exact trivial
          | ok v =>
            obtain ⟨i, r⟩ := v
            have KO := hide (show Calls Tryz.prog 86 #[.pointer (some ⟨rb, 0, none⟩)] wr.drew (fun e w' => wr.drew.grownBy w' (some rb) ∧ e = .returned (.int .i64 i) ∧ ∃ n, L.drop n = r ∧ Rd0 rb tv L n (memRest h0.name h0.height S R C A) w') from KN.out.mono (fun e w' h => by
              have h1 := h.2
              rw [hv] at h1
              exact ⟨h.1, h1⟩))
            have cl : wr.cell? ⟨sb, 5, none⟩ = some (.slice lA l.length lc) := (Joins.cell_of_block hst.out.box 5).trans rfl
            have hm1 : m ≤ 1000000 := by omega
            have HNL := hide (num_less _ _ _ hv)
            clear KN
            go_wp2_with fail
            go_region_law (first
              | (go_simp; go_at_call 86; refine KO.out.mono ?_; rintro e w1 ⟨hg1, rfl, m1, hd1, hr1⟩
                 have hmm : m + 1 ≤ m1 := by have e1 := HNL.out; have e2 := congrArg List.length hd1; simp only [List.length_drop] at e1 e2; omega
                 have HS1 := hide (hst.out.kept hne (undrew hg1) hr1 (by omega))
                 have cl1 : w1.cell? ⟨sb, 5, none⟩ = some (.slice lA l.length lc) := (Joins.cell_of_block HS1.out.box 5).trans rfl
                 have cl2 : ∀ o, (w1.alloc o).cell? ⟨sb, 5, none⟩ = some (.slice lA l.length lc) := fun o => (World.cell?_of_block (a := ⟨sb, 5, none⟩) (heap_alloc_old w1 o (Array.getElem?_eq_some_iff.1 HS1.out.box).1)).trans cl1
                 have hrb1 := hr1.lt
                 have HD1 := hide hd1
                 clear hd1 hg1 hr1)
              | (refine step_append_lies _ (by rfl) (.tmp 25) (.tmp 28) 59 (by rfl) (rb + 1) 3 i8 (.int .i64 0) 1 8 Tryz.underlying59 HI.out.1 HI.out.2.1 HI.out.2.2.1 HI.out.2.2.2 rfl (by omega) (.slice lA l.length lc) l.length (l.flatMap intCells) (by rfl) (HS1.out.own.alloc _) ⟨w1.heap.size, 0, none⟩ 1 1 (intCells i) (by go_simp) rfl (World.news_of_block (heap_alloc_new w1 _)) (fun u hu => by simp [intCells] at hu; subst hu; rfl) (by omega) (by unfold maxLen; omega) (by omega) (by simp; omega) (w1.heap.size + 1) (by simp) ?_; intro g4 cap4 w4 hown4 hgr4 hg4 hlt4; obtain ⟨⟨cv, hcv⟩, hfr, hst4⟩ := HS1.out.append hsbu (by omega) hown4 (by first | exact hgr4 | exact undrew hgr4) hg4 (by omega) HSEP.out))
            all_goals
              have hgd := (num_gd (L.drop m)) h5.out
              rw [hv] at hgd
              have H5 := hide (show Last5 (L.drop m1) by rw [HD1.out]; exact hgd.2)
              have HMO := hide (hmo.out.step h5.out.ne hv)
              rw [← HD1.out] at HMO
              obtain ⟨t, rr, htr, hg, hr, hnl⟩ := H5.out.head
              have HST4 := hide hst4
              have KNW := hide (Gives.first (now_any hst4.rin.rd hg))
              simp only [TokD.val] at KNW
              have g0 := fld0
              clear hgd hg hst4 hown4 hgr4 hg4 hlt4 hcv hfr cl cl1 cl2
              go_simp
              go_wp2_with (go_at_call 87; refine KNW.out.mono ?_; rintro e w5 ⟨rfl, z, rfl⟩)
              have hke : decide (kindT (L.drop m1) ≠ 4) = (t.kind != 4) := by
                rw [htr]
                show decide (t.kind ≠ 4) = _
                by_cases h : t.kind = 4 <;> simp [h]
              have hz := HST4.out.rin.rd.more z.below
              have hn1 := hz.numAt
              have hn0 := hst.out.rin.rd.numAt
              refine ⟨⟨l ++ [i], some ⟨g4, 0, none⟩, cap4, m1, (t.kind != 4), rfl, hide (by rw [List.length_append, List.length_singleton]; omega), hide (by rw [List.length_append, List.length_singleton]; exact HST4.out.kept hne (grown_of_below z.below) hz (Nat.le_refl _)), H5, hide (by rw [← hke]; exact HMO.out)⟩, ?_⟩
              rw [hn1, hn0]
              omega
end Go.Proofs.YtnjbfhfjdhfdlaaGreatDoor
namespace Go.Proofs.YtnjbfhfjdhfdlaaGreatDoor
open Go.RowKit

theorem put_at {rb sb n : Nat} {tv : Value} {L : List TokD} {rest : List Value} {u0 w w0 : World} {cur : Array Value} {ty : TypeId} (offs : List Nat) (h : Rd0 rb tv L n rest w) (htb : ∀ tb cap, tv = .slice (some ⟨tb, 0, none⟩) L.length cap → tb < rb) (hl : Last5 (L.drop n)) (hbig : L.length ≤ 1000000) (hts : ∀ t ∈ L, t.text.size ≤ 1000000) (hc : Ctx w0 rb w)
    (hu : u0.grownBy w (some rb)) (hsb : u0.heap.size ≤ sb) (hrb : rb < u0.heap.size) (hs : w.heap[sb]? = some (.cells cur ty (0, 0)))
    (ho : ∀ o ∈ offs, o < cur.size) (h9 : offs.length ≤ 9) (tp : TypeId) (ptrs : Array Value) (hp : ptrs.toList = offs.map fun o => .pointer (some ⟨sb, o, none⟩)) (pc : Nat) :
    Calls Tryz.prog 121 #[.pointer (some ⟨rb, 0, none⟩), .slice (some ⟨w.heap.size, 0, none⟩) offs.length pc] (w.alloc (.cells ptrs tp (0, 0))) (PutPost rb sb tv L rest cur ty offs (numsR offs.length (L.drop n)) u0) := by
  obtain ⟨U, hU, hUs, hUb, hUh⟩ := boxed w (.cells ptrs tp (0, 0))
  have hsl := (Array.getElem?_eq_some_iff.1 hs).1
  have hlo := hc.lo
  have KN := numbers_any (pb := w.heap.size) (po := 0) (pc := pc) (sb := sb) offs (h.more hUb) hl hbig hts ⟨hc.tabs, hc.bel.trans (hUb.mono hc.bel.size), hc.lo⟩ (by omega) (by omega)
    (fun tb cap e => by have := htb tb cap e; omega) (by have := hu.size; omega) (by omega) (by omega) ((hUb.block _ hsl).trans hs) ho h9
    (fun i o hi => by
      rw [Nat.zero_add, Joins.cell_of_block hUh i, ← Array.getElem?_toList, hp, List.getElem?_map, hi]; rfl)
  rw [← hU]
  refine KN.mono ?_
  rintro e w' ⟨hg, hx⟩
  refine ⟨hg.one (grown_below hu hUb) hsb, ?_⟩
  cases hn : numsR offs.length (L.drop n) with
  | error q => rw [hn] at hx; exact hx
  | ok v =>
    obtain ⟨l, r⟩ := v
    rw [hn] at hx
    exact ⟨hx.1, (Array.getElem?_eq_some_iff.1 hx.2.1).1, hx.2.1, hx.2.2⟩
/-- texts laid as a literal slice -/
theorem texts_of {U : World} {b : Nat} {tt : TypeId} (zs : List ByteArray) (hz : 0 < zs.length) (hz2 : zs.length ≤ 1000) (hU : U.heap[b]? = some (.cells (zs.map Value.string).toArray tt (0, 0))) (ok : List UInt8 → Bool) (hok : ∀ x : ByteArray, ok (bs x) = true ↔ x ∈ zs) (c : Nat) :
    TextsOf U (.slice (some ⟨b, 0, none⟩) zs.length c) ok := by
  refine Or.inr ⟨b, 0, zs, c, rfl, hz, hz2, (Array.getElem?_eq_some_iff.1 hU).1, fun j hj => ?_, fun x => ?_⟩
  · rw [Nat.zero_add, Joins.cell_of_block hU j]
    simp [hj]
  · have h1 := hok x
    have h2 := Lib.containsS_iff zs x
    cases h3 : ok (bs x) <;> cases h4 : Lib.containsS zs x <;> simp_all
def sManual : ByteArray := ⟨#[109, 97, 110, 117, 97, 108]⟩
def sFollow : ByteArray := ⟨#[102, 111, 108, 108, 111, 119]⟩
def sWith : ByteArray := ⟨#[119, 105, 116, 104]⟩
theorem bs_iff {x y : ByteArray} : bs x = bs y ↔ x = y := ⟨bs_inj, fun h => by rw [h]⟩
theorem link_texts (x : ByteArray) : linkWord (bs x) = true ↔ x ∈ [sManual, sFollow, sWith] := by
  have e1 : wManual = bs sManual := by kernel_rfl
  have e2 : wFollow = bs sFollow := by kernel_rfl
  have e3 : wWith = bs sWith := by kernel_rfl
  simp only [linkWord, e1, e2, e3, bs_iff, Bool.or_eq_true, decide_eq_true_eq, List.mem_cons, List.not_mem_nil, or_false, or_assoc]
def stmtTexts : List ByteArray := [⟨#[114, 111, 111, 102]⟩, ⟨#[115, 101, 116]⟩, ⟨#[105, 116, 101, 109]⟩, ⟨#[98, 114, 105, 99, 107]⟩, ⟨#[99, 117, 101]⟩, ⟨#[109, 111, 118, 101]⟩, ⟨#[97, 112, 97, 114, 116]⟩]
theorem stmt_texts (x : ByteArray) : stmtWord (bs x) = true ↔ x ∈ stmtTexts := by
  have e1 : wRoof = bs ⟨#[114, 111, 111, 102]⟩ := by kernel_rfl
  have e2 : wSet = bs ⟨#[115, 101, 116]⟩ := by kernel_rfl
  have e3 : wItem = bs ⟨#[105, 116, 101, 109]⟩ := by kernel_rfl
  have e4 : wBrick = bs ⟨#[98, 114, 105, 99, 107]⟩ := by kernel_rfl
  have e5 : wCue = bs ⟨#[99, 117, 101]⟩ := by kernel_rfl
  have e6 : wMove = bs ⟨#[109, 111, 118, 101]⟩ := by kernel_rfl
  have e7 : wApart = bs ⟨#[97, 112, 97, 114, 116]⟩ := by kernel_rfl
  simp only [stmtWord, stmtTexts, e1, e2, e3, e4, e5, e6, e7, bs_iff, Bool.or_eq_true, decide_eq_true_eq, List.mem_cons, List.not_mem_nil, or_false, or_assoc]
theorem cueR_nums {ts r r2 : List TokD} {nm : ByteArray} {k : Int × ByteArray} {q : Int × Int} (h : nameR ts = .ok (nm, r)) (h2 : linkR r = .ok (k, r2)) (h3 : numsR 3 r2 = .error q) : cueR ts = .error q := by rw [cueR, h]; simp only [bindR]; rw [h2]; simp only; rw [h3]
theorem cueR_ok {ts r r2 r3 : List TokD} {nm : ByteArray} {k : Int × ByteArray} {a : List Int} (h : nameR ts = .ok (nm, r)) (h2 : linkR r = .ok (k, r2)) (h3 : numsR 3 r2 = .ok (a, r3)) : cueR ts = .ok (⟨nm, k.2, k.1, nth a 0, [], nth a 1, nth a 2⟩, r3) := by rw [cueR, h]; simp only [bindR]; rw [h2]; simp only; rw [h3]
theorem infoCue : (Tryz.prog.info? 80).map (fun i => (i.zero, i.size, i.bytes)) = some (some (.agg #[.string ⟨#[]⟩, .string ⟨#[]⟩, .int .i64 0, .int .i64 0, .slice none 0 0, .int .i64 0, .int .i64 0]), 7, 88) := by kernel_rfl
set_option maxRecDepth 100000 in
set_option maxHeartbeats 8000000 in
theorem cue_any {rb n : Nat} {tv : Value} {L : List TokD} {h0 : HouseP} {c0 : SheetP} {u w0 : World} (h : RSt rb tv L n h0 c0 u) (p : Int × Int) (hl : Last5 (L.drop n)) (hbig : L.length ≤ 1000000) (hts : ∀ t ∈ L, t.text.size ≤ 1000000) (hc : Ctx w0 rb u) :
    Calls Tryz.prog 125 #[.pointer (some ⟨rb, 0, none⟩)] u (StPost rb tv L (bodyR h0 c0 wCue p (L.drop n)) u) := by
  obtain ⟨S, R, C, A, hin, hS, hR, hC, hA⟩ := h
  have HE := hide (show bodyR h0 c0 wCue p (L.drop n) = bindR (cueR (L.drop n)) fun x r => .ok ((h0, { c0 with cues := c0.cues ++ [x] }), r) by
    rw [bodyR, if_neg (by decide), if_neg (by decide), if_neg (by decide), if_neg (by decide), if_pos rfl])
  have HIN := hide hin
  have HL := hide hl
  have HC := hide hc
  have hrbl := hin.rd.lt
  clear hl hc hin
  have KN := hide (name_any HIN.out.rd HL.out hbig)
  go_enter Tryz.func125, Tryz.ntmps125
  go_wp2_with fail
  refine KN.out.mono ?_
  rintro e w2 ⟨hg2, hx⟩
  have HG2 := hide hg2
  have HX := hide hx
  clear hg2 hx
  cases hnm : nameR (L.drop n) with
  | error q =>
    have h1 := HX.out
    rw [hnm] at h1
    simp only at h1
    subst h1
    refine ⟨rfl, Below.grown (Below.refl _ _) HG2.out (Nat.le_of_lt hrbl) (fun k hk => by injection hk with hk; omega), ?_⟩
    rw [HE.out, cueR, hnm]
    rfl
  | ok v =>
    obtain ⟨nm, r⟩ := v
    have h1 := HX.out
    rw [hnm] at h1
    obtain ⟨rfl, m2, h2, h3⟩ := h1
    have hgd := name_gd (L.drop n) HL.out
    rw [hnm] at hgd
    have H5 := hide (show Last5 (L.drop m2) by rw [h2]; exact hgd.2)
    have HR2 := hide h3
    have HN := hide (And.intro hnm h2)
    clear HX h2 h3 hnm hgd KN
    go_upto_region 1 with fail
    obtain ⟨V, hV, hVs, hVb, hVh⟩ := boxed w2 (.cells #[.string nm, .string ⟨#[]⟩, .int .i64 0, .int .i64 0, .slice none 0 0, .int .i64 0, .int .i64 0] 80)
    obtain ⟨sb, hsb⟩ : ∃ b, b = w2.heap.size := ⟨_, rfl⟩
    rw [← hsb] at hVs hVh
    obtain ⟨U, hU, hUs, hUb, hUh⟩ := boxed V (.cells #[.string ⟨#[109, 97, 110, 117, 97, 108]⟩, .string ⟨#[102, 111, 108, 108, 111, 119]⟩, .string ⟨#[119, 105, 116, 104]⟩] 9)
    rw [hVs] at hUs
    have hT := texts_of [sManual, sFollow, sWith] (by decide) (by decide) hUh linkWord link_texts 3
    have hwU : Below w2.heap.size w2 U := hVb.trans (hUb.mono (by omega))
    have KT := hide (take_any (HR2.out.more hwU) H5.out hbig 1 _ linkWord hT)
    have hwUg := hide (grown_below HG2.out hwU)
    have hUV := hide ((hUb.block sb (by omega)).trans hVh)
    have HV := hide hV
    have HU := hide hU
    have HSB := hide hsb
    clear hV hU hsb hVs hVb hVh hUb hUh hT hwU
    rw [← HV.out, ← HSB.out]
    go_wp2_with fail
    rw [← HU.out]
    refine KT.out.mono ?_
    rintro e w3 ⟨hg3, hx⟩
    have HG3 := hide (grown_trans hwUg hg3)
    have HX := hide hx
    have hS3 := hide ((hg3.block sb (by omega) (fun e => by injection e with e; have := HG2.out.size; have := HSB.out; omega)).trans hUV)
    have hsb3 := hg3.size
    clear hg3 hx KT hwUg hUV
    cases htk : takeR 1 linkWord (L.drop m2) with
    | error q =>
      have h1 := HX.out
      rw [htk] at h1
      simp only at h1
      subst h1
      refine ⟨rfl, Below.grown (Below.refl _ _) HG3.out (Nat.le_of_lt hrbl) (fun k hk => by injection hk with hk; omega), ?_⟩
      rw [HE.out, cueR, HN.out.1]
      simp only [bindR]
      rw [linkR, ← HN.out.2, htk]
      rfl
    | ok v =>
      obtain ⟨lw, r2⟩ := v
      have h1 := HX.out
      rw [htk] at h1
      obtain ⟨rfl, m3, h2, h3⟩ := h1
      have hgd := (take_gd (k := 1) (by decide) linkWord (L.drop m2)) H5.out
      rw [htk] at hgd
      have H53 := hide (show Last5 (L.drop m3) by rw [h2]; exact hgd.2)
      have HR3 := hide h3
      have HN3 := hide (And.intro htk h2)
      clear HX h2 h3 htk hgd
      have hc0 : w3.cell? ⟨sb, 1, none⟩ = some (.string ⟨#[]⟩) ∧ w3.cell? ⟨sb, 2, none⟩ = some (.int .i64 0) := ⟨(Joins.cell_of_block hS3.out 1).trans rfl, (Joins.cell_of_block hS3.out 2).trans rfl⟩
      have hf0 := fun i => block_unfrozen hS3.out i
      have hsbu : u.heap.size ≤ sb := by rw [HSB.out]; exact HG2.out.size
      have hne : sb ≠ rb := by omega
      cases hq1 : (lw.toList == [109, 97, 110, 117, 97, 108])
      · have HNM := hide (show ¬ bs lw = wManual by intro h; have h' : lw.toList = [109, 97, 110, 117, 97, 108] := h; rw [h'] at hq1; exact absurd hq1 (by decide))
        cases hq2 : (lw.toList == [102, 111, 108, 108, 111, 119])
        · have HIF := hide (show (if bs lw = wFollow then (2 : Int) else 3) = 3 by rw [if_neg]; intro h; have h' : lw.toList = [102, 111, 108, 108, 111, 119] := h; rw [h'] at hq2; exact absurd hq2 (by decide))
          have KN2 := hide (name_any HR3.out H53.out hbig)
          go_wp2_with fail
          refine KN2.out.mono ?_
          rintro e w4a ⟨hg4, hx⟩
          have HG4a := hide (grown_trans HG3.out hg4)
          have HX := hide hx
          have hS4 := hide ((hg4.block sb (Array.getElem?_eq_some_iff.1 hS3.out).1 (fun e => hne (by injection e))).trans hS3.out)
          clear hg4 hx KN2 hc0 hf0
          cases hnm2 : nameR (L.drop m3) with
          | error q =>
            have h1 := HX.out
            rw [hnm2] at h1
            simp only at h1
            subst h1
            refine ⟨rfl, Below.grown (Below.refl _ _) HG4a.out (Nat.le_of_lt hrbl) (fun k hk => by injection hk with hk; omega), ?_⟩
            rw [HE.out, cueR, HN.out.1]
            simp only [bindR]
            rw [linkR, ← HN.out.2, HN3.out.1]
            simp only [bindR]
            rw [if_neg HNM.out, ← HN3.out.2, hnm2]
          | ok v =>
          obtain ⟨aft, r4⟩ := v
          have h1 := HX.out
          rw [hnm2] at h1
          obtain ⟨rfl, m4, h2, h3⟩ := h1
          have hgd := name_gd (L.drop m3) H53.out
          rw [hnm2] at hgd
          have H54 := hide (show Last5 (L.drop m4) by rw [h2]; exact hgd.2)
          have HR4a := hide h3
          have HLK := hide (show linkR (L.drop m2) = .ok ((3, aft), L.drop m4) by
            rw [linkR, HN3.out.1]; simp only [bindR]
            rw [if_neg HNM.out, ← HN3.out.2, hnm2]; simp only; rw [HIF.out, h2])
          have HM4 := hide (show m4 ≥ m2 by
            have e1 := take_less 1 linkWord (L.drop m2) _ _ HN3.out.1
            have e2 := congrArg List.length HN3.out.2
            have e3 := name_less' hnm2
            have e4 := congrArg List.length h2
            simp only [List.length_drop] at e1 e2 e3 e4
            omega)
          have hb2 := block_set (i := 2) hS4.out (.int .i64 3)
          have hc2 : w4a.cell? ⟨sb, 2, none⟩ = some (.int .i64 0) := (Joins.cell_of_block hS4.out 2).trans rfl
          have hf2 := block_unfrozen hS4.out 2
          have hc1 : (w4a.setCell ⟨sb, 2, none⟩ (.int .i64 3)).cell? ⟨sb, 1, none⟩ = some (.string ⟨#[]⟩) := (Joins.cell_of_block hb2 1).trans rfl
          have hf1 := block_unfrozen hb2 1
          have HB2 := hide hb2
          clear HX h2 h3 hnm2 hgd hb2
          go_upto_region 7 with fail
          obtain ⟨w4, hw4⟩ : ∃ w4, w4 = (w4a.setCell ⟨sb, 2, none⟩ (.int .i64 3)).setCell ⟨sb, 1, none⟩ (.string aft) := ⟨_, rfl⟩
          have HR4 := hide (show Rd0 rb tv L m4 (memRest h0.name h0.height S R C A) w4 by rw [hw4]; exact (HR4a.out.putOther hne (fun tb cap e => by have := HIN.out.low tb cap e; omega) _ _).putOther hne (fun tb cap e => by have := HIN.out.low tb cap e; omega) _ _)
          have HG4 := hide (show u.grownBy w4 (some rb) by
            rw [hw4]
            exact ⟨HG4a.out.os, HG4a.out.tape, HG4a.out.output, by simp [World.setCell]; exact HG4a.out.size, fun k hk hne => (Below.heap_setCell _ _ _ _ (by simp only; omega)).trans ((Below.heap_setCell _ _ _ _ (by simp only; omega)).trans (HG4a.out.block k hk hne))⟩)
          have HS4 := hide (show w4.heap[sb]? = some (.cells #[.string nm, .string aft, .int .i64 3, .int .i64 0, .slice none 0 0, .int .i64 0, .int .i64 0] 80 (0, 0)) by rw [hw4]; exact block_set HB2.out _)
          rw [← hw4]
          clear hw4 hc1 hf1 hc2 hf2
          have KP := hide (put_at [3, 5, 6] (cur := #[.string nm, .string aft, .int .i64 3, .int .i64 0, .slice none 0 0, .int .i64 0, .int .i64 0]) (ty := 80) HR4.out HIN.out.low H54.out hbig hts (HC.out.grown HG4.out) HG4.out hsbu hrbl HS4.out (by intro o ho; simp at ho ⊢; omega) (by decide) 155 #[.pointer (some ⟨sb, 3, none⟩), .pointer (some ⟨sb, 5, none⟩), .pointer (some ⟨sb, 6, none⟩)] rfl 3)
          go_wp2_with fail
          refine KP.out.mono ?_
          rintro e w5 ⟨hg5, hx⟩
          have HG5 := hide hg5
          have HX := hide hx
          clear hg5 hx KP
          rw [show ([3, 5, 6] : List Nat).length = 3 from rfl] at HX
          cases hns : numsR 3 (L.drop m4) with
          | error q =>
            have h1 := HX.out
            rw [hns] at h1
            simp only at h1
            subst h1
            refine ⟨rfl, Below.grown (Below.refl _ _) HG5.out (Nat.le_of_lt hrbl) (fun k hk => by injection hk with hk; omega), ?_⟩
            rw [HE.out, cueR_nums HN.out.1 (by rw [← HN.out.2]; exact HLK.out) hns]
            rfl
          | ok v =>
            obtain ⟨l, r5⟩ := v
            have h1 := HX.out
            rw [hns] at h1
            obtain ⟨rfl, hsz, h2, m5, h3, h4⟩ := h1
            have hll := numsR_len 3 hns
            obtain ⟨a1, a2, a3, rfl⟩ : ∃ a1 a2 a3, l = [a1, a2, a3] := by
              match l, hll with
              | [a1, a2, a3], _ => exact ⟨_, _, _, rfl⟩
            have HR5 := hide h4
            have hgd2 := nums_gd 3 (L.drop m4) H54.out
            rw [hns] at hgd2
            have H55 := hide (show Last5 (L.drop m5) by rw [h3]; exact hgd2.2)
            clear hgd2
            have HEND := hide (And.intro (cueR_ok HN.out.1 (by rw [← HN.out.2]; exact HLK.out) hns) (And.intro h3 hns))
            have h2 : w5.heap[sb]? = some (.cells #[.string nm, .string aft, .int .i64 3, .int .i64 a1, .slice none 0 0, .int .i64 a2, .int .i64 a3] 80 (0, 0)) := h2
            have HV5 := hide h2
            clear HX h3 h4 hns hll h2
            obtain ⟨i8, hi8, hz8, hs8, hb8⟩ := info_parts infoCue
            have HI := hide (And.intro hi8 (And.intro hz8 (And.intro hs8 hb8)))
            have hlen : n + 1 ≤ m5 := by
              have e1 := name_less' HN.out.1
              have e2 := nums_less 3 _ _ _ HEND.out.2.2
              have e3 := congrArg List.length HEND.out.2.1
              have e4 := congrArg List.length HN.out.2
              have e5 := HM4.out
              simp only [List.length_drop] at e1 e2 e3 e4
              omega
            have HIN5 := hide (HIN.out.kept HG5.out HR5.out (by omega))
            have hit0 := HIN.out.cues.2
            have hm5 : m5 ≤ 1000000 := by obtain ⟨_, _, _, _, _, h9⟩ := H55.out.head; omega
            have hrb5 := HIN5.out.rd.lt
            have c6 : w5.cell? ⟨rb, 6, none⟩ = some (.slice C.A C.l.length C.cap) := (HIN5.out.rd.cellr 4).trans rfl
            have hsb := Joins.cell_of_block HV5.out
            have hs0 := hsb 0
            have hs1 := hsb 1
            have hs2 := hsb 2
            have hs3 := hsb 3
            have hs4 := hsb 4
            have hs5 := hsb 5
            have hs6 := hsb 6
            clear hi8 hz8 hs8 hb8 hsb
            go_wp2_with fail
            go_region_law ((refine step_append_lies _ (by rfl) (.tmp 33) (.tmp 35) 26 (by rfl) (rb + 1) 80 i8 (.agg #[.string ⟨#[]⟩, .string ⟨#[]⟩, .int .i64 0, .int .i64 0, .slice none 0 0, .int .i64 0, .int .i64 0]) 7 88 Tryz.underlying26 HI.out.1 HI.out.2.1 HI.out.2.2.1 HI.out.2.2.2 rfl (by omega) C.val C.l.length (C.l.flatMap CueD.cells) (by rfl) (HIN5.out.cues.1.alloc _) ⟨w5.heap.size, 0, none⟩ 1 1 (CueD.cells ⟨nm, aft, 3, a1, ⟨none, 0, []⟩, a2, a3⟩) (by go_simp) rfl (World.news_of_block (heap_alloc_new w5 _)) (fun u hu => by simp [CueD.cells, Sl.val] at hu; rcases hu with rfl | rfl | rfl | rfl | rfl | rfl | rfl <;> rfl) (by omega) (by unfold maxLen; omega) (by omega) (by simp; omega) (w5.heap.size + 1) (by simp) ?_; intro g4 cap4 w6 hown4 hgr4 hg4 hlt4; obtain ⟨⟨cv, hcv⟩, hfr, hbel4, hin4⟩ := RIn.addCue HIN5.out rfl hown4 (undrew hgr4) hg4 (by omega)))
            all_goals
              go_end0
              refine ⟨((Below.grown (Below.refl rb u) HG5.out (Nat.le_of_lt hrbl) (fun k hk => by injection hk with hk; omega))).trans (hbel4.mono (Nat.le_refl _)), ?_⟩
              rw [HE.out, HEND.out.1]
              refine ⟨rfl, m5, HEND.out.2.1, S, R, _, A, hin4, hS, hR, ?_, hA⟩
              rw [← hC, List.map_append, List.map_singleton]
              rfl
        · have HIF := hide (show (if bs lw = wFollow then (2 : Int) else 3) = 2 by rw [if_pos (show bs lw = wFollow by simpa [bs, wFollow] using hq2)])
          have KN2 := hide (name_any HR3.out H53.out hbig)
          go_wp2_with fail
          refine KN2.out.mono ?_
          rintro e w4a ⟨hg4, hx⟩
          have HG4a := hide (grown_trans HG3.out hg4)
          have HX := hide hx
          have hS4 := hide ((hg4.block sb (Array.getElem?_eq_some_iff.1 hS3.out).1 (fun e => hne (by injection e))).trans hS3.out)
          clear hg4 hx KN2 hc0 hf0
          cases hnm2 : nameR (L.drop m3) with
          | error q =>
            have h1 := HX.out
            rw [hnm2] at h1
            simp only at h1
            subst h1
            refine ⟨rfl, Below.grown (Below.refl _ _) HG4a.out (Nat.le_of_lt hrbl) (fun k hk => by injection hk with hk; omega), ?_⟩
            rw [HE.out, cueR, HN.out.1]
            simp only [bindR]
            rw [linkR, ← HN.out.2, HN3.out.1]
            simp only [bindR]
            rw [if_neg HNM.out, ← HN3.out.2, hnm2]
          | ok v =>
          obtain ⟨aft, r4⟩ := v
          have h1 := HX.out
          rw [hnm2] at h1
          obtain ⟨rfl, m4, h2, h3⟩ := h1
          have hgd := name_gd (L.drop m3) H53.out
          rw [hnm2] at hgd
          have H54 := hide (show Last5 (L.drop m4) by rw [h2]; exact hgd.2)
          have HR4a := hide h3
          have HLK := hide (show linkR (L.drop m2) = .ok ((2, aft), L.drop m4) by
            rw [linkR, HN3.out.1]; simp only [bindR]
            rw [if_neg HNM.out, ← HN3.out.2, hnm2]; simp only; rw [HIF.out, h2])
          have HM4 := hide (show m4 ≥ m2 by
            have e1 := take_less 1 linkWord (L.drop m2) _ _ HN3.out.1
            have e2 := congrArg List.length HN3.out.2
            have e3 := name_less' hnm2
            have e4 := congrArg List.length h2
            simp only [List.length_drop] at e1 e2 e3 e4
            omega)
          have hb2 := block_set (i := 2) hS4.out (.int .i64 2)
          have hc2 : w4a.cell? ⟨sb, 2, none⟩ = some (.int .i64 0) := (Joins.cell_of_block hS4.out 2).trans rfl
          have hf2 := block_unfrozen hS4.out 2
          have hc1 : (w4a.setCell ⟨sb, 2, none⟩ (.int .i64 2)).cell? ⟨sb, 1, none⟩ = some (.string ⟨#[]⟩) := (Joins.cell_of_block hb2 1).trans rfl
          have hf1 := block_unfrozen hb2 1
          have HB2 := hide hb2
          clear HX h2 h3 hnm2 hgd hb2
          go_upto_region 7 with fail
          obtain ⟨w4, hw4⟩ : ∃ w4, w4 = (w4a.setCell ⟨sb, 2, none⟩ (.int .i64 2)).setCell ⟨sb, 1, none⟩ (.string aft) := ⟨_, rfl⟩
          have HR4 := hide (show Rd0 rb tv L m4 (memRest h0.name h0.height S R C A) w4 by rw [hw4]; exact (HR4a.out.putOther hne (fun tb cap e => by have := HIN.out.low tb cap e; omega) _ _).putOther hne (fun tb cap e => by have := HIN.out.low tb cap e; omega) _ _)
          have HG4 := hide (show u.grownBy w4 (some rb) by
            rw [hw4]
            exact ⟨HG4a.out.os, HG4a.out.tape, HG4a.out.output, by simp [World.setCell]; exact HG4a.out.size, fun k hk hne => (Below.heap_setCell _ _ _ _ (by simp only; omega)).trans ((Below.heap_setCell _ _ _ _ (by simp only; omega)).trans (HG4a.out.block k hk hne))⟩)
          have HS4 := hide (show w4.heap[sb]? = some (.cells #[.string nm, .string aft, .int .i64 2, .int .i64 0, .slice none 0 0, .int .i64 0, .int .i64 0] 80 (0, 0)) by rw [hw4]; exact block_set HB2.out _)
          rw [← hw4]
          clear hw4 hc1 hf1 hc2 hf2
          have KP := hide (put_at [3, 5, 6] (cur := #[.string nm, .string aft, .int .i64 2, .int .i64 0, .slice none 0 0, .int .i64 0, .int .i64 0]) (ty := 80) HR4.out HIN.out.low H54.out hbig hts (HC.out.grown HG4.out) HG4.out hsbu hrbl HS4.out (by intro o ho; simp at ho ⊢; omega) (by decide) 155 #[.pointer (some ⟨sb, 3, none⟩), .pointer (some ⟨sb, 5, none⟩), .pointer (some ⟨sb, 6, none⟩)] rfl 3)
          go_wp2_with fail
          refine KP.out.mono ?_
          rintro e w5 ⟨hg5, hx⟩
          have HG5 := hide hg5
          have HX := hide hx
          clear hg5 hx KP
          rw [show ([3, 5, 6] : List Nat).length = 3 from rfl] at HX
          cases hns : numsR 3 (L.drop m4) with
          | error q =>
            have h1 := HX.out
            rw [hns] at h1
            simp only at h1
            subst h1
            refine ⟨rfl, Below.grown (Below.refl _ _) HG5.out (Nat.le_of_lt hrbl) (fun k hk => by injection hk with hk; omega), ?_⟩
            rw [HE.out, cueR_nums HN.out.1 (by rw [← HN.out.2]; exact HLK.out) hns]
            rfl
          | ok v =>
            obtain ⟨l, r5⟩ := v
            have h1 := HX.out
            rw [hns] at h1
            obtain ⟨rfl, hsz, h2, m5, h3, h4⟩ := h1
            have hll := numsR_len 3 hns
            obtain ⟨a1, a2, a3, rfl⟩ : ∃ a1 a2 a3, l = [a1, a2, a3] := by
              match l, hll with
              | [a1, a2, a3], _ => exact ⟨_, _, _, rfl⟩
            have HR5 := hide h4
            have hgd2 := nums_gd 3 (L.drop m4) H54.out
            rw [hns] at hgd2
            have H55 := hide (show Last5 (L.drop m5) by rw [h3]; exact hgd2.2)
            clear hgd2
            have HEND := hide (And.intro (cueR_ok HN.out.1 (by rw [← HN.out.2]; exact HLK.out) hns) (And.intro h3 hns))
            have h2 : w5.heap[sb]? = some (.cells #[.string nm, .string aft, .int .i64 2, .int .i64 a1, .slice none 0 0, .int .i64 a2, .int .i64 a3] 80 (0, 0)) := h2
            have HV5 := hide h2
            clear HX h3 h4 hns hll h2
            obtain ⟨i8, hi8, hz8, hs8, hb8⟩ := info_parts infoCue
            have HI := hide (And.intro hi8 (And.intro hz8 (And.intro hs8 hb8)))
            have hlen : n + 1 ≤ m5 := by
              have e1 := name_less' HN.out.1
              have e2 := nums_less 3 _ _ _ HEND.out.2.2
              have e3 := congrArg List.length HEND.out.2.1
              have e4 := congrArg List.length HN.out.2
              have e5 := HM4.out
              simp only [List.length_drop] at e1 e2 e3 e4
              omega
            have HIN5 := hide (HIN.out.kept HG5.out HR5.out (by omega))
            have hit0 := HIN.out.cues.2
            have hm5 : m5 ≤ 1000000 := by obtain ⟨_, _, _, _, _, h9⟩ := H55.out.head; omega
            have hrb5 := HIN5.out.rd.lt
            have c6 : w5.cell? ⟨rb, 6, none⟩ = some (.slice C.A C.l.length C.cap) := (HIN5.out.rd.cellr 4).trans rfl
            have hsb := Joins.cell_of_block HV5.out
            have hs0 := hsb 0
            have hs1 := hsb 1
            have hs2 := hsb 2
            have hs3 := hsb 3
            have hs4 := hsb 4
            have hs5 := hsb 5
            have hs6 := hsb 6
            clear hi8 hz8 hs8 hb8 hsb
            go_wp2_with fail
            go_region_law ((refine step_append_lies _ (by rfl) (.tmp 33) (.tmp 35) 26 (by rfl) (rb + 1) 80 i8 (.agg #[.string ⟨#[]⟩, .string ⟨#[]⟩, .int .i64 0, .int .i64 0, .slice none 0 0, .int .i64 0, .int .i64 0]) 7 88 Tryz.underlying26 HI.out.1 HI.out.2.1 HI.out.2.2.1 HI.out.2.2.2 rfl (by omega) C.val C.l.length (C.l.flatMap CueD.cells) (by rfl) (HIN5.out.cues.1.alloc _) ⟨w5.heap.size, 0, none⟩ 1 1 (CueD.cells ⟨nm, aft, 2, a1, ⟨none, 0, []⟩, a2, a3⟩) (by go_simp) rfl (World.news_of_block (heap_alloc_new w5 _)) (fun u hu => by simp [CueD.cells, Sl.val] at hu; rcases hu with rfl | rfl | rfl | rfl | rfl | rfl | rfl <;> rfl) (by omega) (by unfold maxLen; omega) (by omega) (by simp; omega) (w5.heap.size + 1) (by simp) ?_; intro g4 cap4 w6 hown4 hgr4 hg4 hlt4; obtain ⟨⟨cv, hcv⟩, hfr, hbel4, hin4⟩ := RIn.addCue HIN5.out rfl hown4 (undrew hgr4) hg4 (by omega)))
            all_goals
              go_end0
              refine ⟨((Below.grown (Below.refl rb u) HG5.out (Nat.le_of_lt hrbl) (fun k hk => by injection hk with hk; omega))).trans (hbel4.mono (Nat.le_refl _)), ?_⟩
              rw [HE.out, HEND.out.1]
              refine ⟨rfl, m5, HEND.out.2.1, S, R, _, A, hin4, hS, hR, ?_, hA⟩
              rw [← hC, List.map_append, List.map_singleton]
              rfl
      · have HLK := hide (show linkR (L.drop m2) = .ok ((1, ⟨#[]⟩), L.drop m3) by
          rw [linkR, HN3.out.1]; simp only [bindR]
          rw [if_pos (show bs lw = wManual by simpa [bs, wManual] using hq1), HN3.out.2])
        go_upto_region 7 with fail
        obtain ⟨w4, hw4⟩ : ∃ w4, w4 = w3.setCell ⟨sb, 2, none⟩ (.int .i64 1) := ⟨_, rfl⟩
        have HR4 := hide (show Rd0 rb tv L m3 (memRest h0.name h0.height S R C A) w4 by rw [hw4]; exact HR3.out.putOther hne (fun tb cap e => by have := HIN.out.low tb cap e; omega) _ _)
        have HG4 := hide (show u.grownBy w4 (some rb) by
          rw [hw4]
          exact ⟨HG3.out.os, HG3.out.tape, HG3.out.output, by simp [World.setCell]; exact HG3.out.size, fun k hk hne => (Below.heap_setCell _ _ _ _ (by simp only; omega)).trans (HG3.out.block k hk hne)⟩)
        have HS4 := hide (show w4.heap[sb]? = some (.cells #[.string nm, .string ⟨#[]⟩, .int .i64 1, .int .i64 0, .slice none 0 0, .int .i64 0, .int .i64 0] 80 (0, 0)) by rw [hw4]; exact block_set hS3.out _)
        have H54 := H53
        have HM4 := hide (show m3 ≥ m2 by
          have e1 := take_less 1 linkWord (L.drop m2) _ _ HN3.out.1
          have e2 := congrArg List.length HN3.out.2
          simp only [List.length_drop] at e1 e2
          omega)
        rw [← hw4]
        clear hw4 hc0 hf0
        have KP := hide (put_at [3, 5, 6] (cur := #[.string nm, .string ⟨#[]⟩, .int .i64 1, .int .i64 0, .slice none 0 0, .int .i64 0, .int .i64 0]) (ty := 80) HR4.out HIN.out.low H54.out hbig hts (HC.out.grown HG4.out) HG4.out hsbu hrbl HS4.out (by intro o ho; simp at ho ⊢; omega) (by decide) 155 #[.pointer (some ⟨sb, 3, none⟩), .pointer (some ⟨sb, 5, none⟩), .pointer (some ⟨sb, 6, none⟩)] rfl 3)
        go_wp2_with fail
        refine KP.out.mono ?_
        rintro e w5 ⟨hg5, hx⟩
        have HG5 := hide hg5
        have HX := hide hx
        clear hg5 hx KP
        rw [show ([3, 5, 6] : List Nat).length = 3 from rfl] at HX
        cases hns : numsR 3 (L.drop m3) with
        | error q =>
          have h1 := HX.out
          rw [hns] at h1
          simp only at h1
          subst h1
          refine ⟨rfl, Below.grown (Below.refl _ _) HG5.out (Nat.le_of_lt hrbl) (fun k hk => by injection hk with hk; omega), ?_⟩
          rw [HE.out, cueR_nums HN.out.1 (by rw [← HN.out.2]; exact HLK.out) hns]
          rfl
        | ok v =>
          obtain ⟨l, r5⟩ := v
          have h1 := HX.out
          rw [hns] at h1
          obtain ⟨rfl, hsz, h2, m5, h3, h4⟩ := h1
          have hll := numsR_len 3 hns
          obtain ⟨a1, a2, a3, rfl⟩ : ∃ a1 a2 a3, l = [a1, a2, a3] := by
            match l, hll with
            | [a1, a2, a3], _ => exact ⟨_, _, _, rfl⟩
          have HR5 := hide h4
          have hgd2 := nums_gd 3 (L.drop m3) H54.out
          rw [hns] at hgd2
          have H55 := hide (show Last5 (L.drop m5) by rw [h3]; exact hgd2.2)
          clear hgd2
          have HEND := hide (And.intro (cueR_ok HN.out.1 (by rw [← HN.out.2]; exact HLK.out) hns) (And.intro h3 hns))
          have h2 : w5.heap[sb]? = some (.cells #[.string nm, .string ⟨#[]⟩, .int .i64 1, .int .i64 a1, .slice none 0 0, .int .i64 a2, .int .i64 a3] 80 (0, 0)) := h2
          have HV5 := hide h2
          clear HX h3 h4 hns hll h2
          obtain ⟨i8, hi8, hz8, hs8, hb8⟩ := info_parts infoCue
          have HI := hide (And.intro hi8 (And.intro hz8 (And.intro hs8 hb8)))
          have hlen : n + 1 ≤ m5 := by
            have e1 := name_less' HN.out.1
            have e2 := nums_less 3 _ _ _ HEND.out.2.2
            have e3 := congrArg List.length HEND.out.2.1
            have e4 := congrArg List.length HN.out.2
            have e5 := HM4.out
            simp only [List.length_drop] at e1 e2 e3 e4
            omega
          have HIN5 := hide (HIN.out.kept HG5.out HR5.out (by omega))
          have hit0 := HIN.out.cues.2
          have hm5 : m5 ≤ 1000000 := by obtain ⟨_, _, _, _, _, h9⟩ := H55.out.head; omega
          have hrb5 := HIN5.out.rd.lt
          have c6 : w5.cell? ⟨rb, 6, none⟩ = some (.slice C.A C.l.length C.cap) := (HIN5.out.rd.cellr 4).trans rfl
          have hsb := Joins.cell_of_block HV5.out
          have hs0 := hsb 0
          have hs1 := hsb 1
          have hs2 := hsb 2
          have hs3 := hsb 3
          have hs4 := hsb 4
          have hs5 := hsb 5
          have hs6 := hsb 6
          clear hi8 hz8 hs8 hb8 hsb
          go_wp2_with fail
          go_region_law ((refine step_append_lies _ (by rfl) (.tmp 33) (.tmp 35) 26 (by rfl) (rb + 1) 80 i8 (.agg #[.string ⟨#[]⟩, .string ⟨#[]⟩, .int .i64 0, .int .i64 0, .slice none 0 0, .int .i64 0, .int .i64 0]) 7 88 Tryz.underlying26 HI.out.1 HI.out.2.1 HI.out.2.2.1 HI.out.2.2.2 rfl (by omega) C.val C.l.length (C.l.flatMap CueD.cells) (by rfl) (HIN5.out.cues.1.alloc _) ⟨w5.heap.size, 0, none⟩ 1 1 (CueD.cells ⟨nm, ⟨#[]⟩, 1, a1, ⟨none, 0, []⟩, a2, a3⟩) (by go_simp) rfl (World.news_of_block (heap_alloc_new w5 _)) (fun u hu => by simp [CueD.cells, Sl.val] at hu; rcases hu with rfl | rfl | rfl | rfl | rfl | rfl | rfl <;> rfl) (by omega) (by unfold maxLen; omega) (by omega) (by simp; omega) (w5.heap.size + 1) (by simp) ?_; intro g4 cap4 w6 hown4 hgr4 hg4 hlt4; obtain ⟨⟨cv, hcv⟩, hfr, hbel4, hin4⟩ := RIn.addCue HIN5.out rfl hown4 (undrew hgr4) hg4 (by omega)))
          all_goals
            go_end0
            refine ⟨((Below.grown (Below.refl rb u) HG5.out (Nat.le_of_lt hrbl) (fun k hk => by injection hk with hk; omega))).trans (hbel4.mono (Nat.le_refl _)), ?_⟩
            rw [HE.out, HEND.out.1]
            refine ⟨rfl, m5, HEND.out.2.1, S, R, _, A, hin4, hS, hR, ?_, hA⟩
            rw [← hC, List.map_append, List.map_singleton]
            rfl
end Go.Proofs.YtnjbfhfjdhfdlaaGreatDoor
