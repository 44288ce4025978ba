/- The reader's method move. -/
import Derived.Test.YtnjbfhfjdhfdlaaGreatDoorSrcPut9
import Derived.Test.YtnjbfhfjdhfdlaaGreatDoorSrcItem
namespace Go.Proofs.YtnjbfhfjdhfdlaaGreatDoor
open Go.RowKit

theorem infoMove : (Tryz.prog.info? 82).map (fun i => (i.zero, i.size, i.bytes)) = some (some (.agg #[.string ⟨#[]⟩, .int .i64 0, .int .i64 0, .int .i64 0, .int .i64 0]), 5, 48) := by kernel_rfl
theorem moveR_name {ts : List TokD} {q : Int × Int} (h : nameR ts = .error q) : moveR ts = .error q := by rw [moveR, h]; rfl
theorem moveR_nums {ts r : List TokD} {nm : ByteArray} {q : Int × Int} (h : nameR ts = .ok (nm, r)) (h2 : numsR 4 r = .error q) : moveR ts = .error q := by rw [moveR, h]; simp only [bindR]; rw [h2]
theorem moveR_ok {ts r r2 : List TokD} {nm : ByteArray} {a : List Int} (h : nameR ts = .ok (nm, r)) (h2 : numsR 4 r = .ok (a, r2)) : moveR ts = .ok (⟨nm, nth a 0, nth a 1, nth a 2, nth a 3⟩, r2) := by rw [moveR, h]; simp only [bindR]; rw [h2]
set_option maxRecDepth 100000 in
set_option maxHeartbeats 8000000 in
theorem move_any {rb n : Nat} {tv : Value} {L : List TokD} {h0 : HouseP} {c0 : SheetP} {u w0 : World} (h : RSt rb tv L (n + 1) h0 c0 u) {t : TokD} (htk : L[n]? = some t) (hl : Last5 (L.drop (n + 1))) (hbig : L.length ≤ 1000000) (hts : ∀ t ∈ L, t.text.size ≤ 1000000) (hc : Ctx w0 rb u) :
    Calls Tryz.prog 126 #[.pointer (some ⟨rb, 0, none⟩)] u (StPost rb tv L (bodyR h0 c0 wMove (t.line, t.col) (L.drop (n + 1))) u) := by
  obtain ⟨S, R, C, A, hin, hS, hR, hC, hA⟩ := h
  have hbody : bodyR h0 c0 wMove (t.line, t.col) (L.drop (n + 1)) = if c0.cues = [] then .error (t.line, t.col) else bindR (moveR (L.drop (n + 1))) fun x r => .ok ((h0, { c0 with cues := onLast (fun q => { q with moves := q.moves ++ [x] }) c0.cues }), r) := by
    rw [bodyR, if_neg (by decide), if_neg (by decide), if_neg (by decide), if_neg (by decide), if_neg (by decide), if_pos rfl]
  have HB := hide hbody
  have HIN := hide hin
  have HL := hide hl
  have HC := hide hc
  have c6u : u.cell? ⟨rb, 6, none⟩ = some (.slice C.A C.l.length C.cap) := (hin.rd.cellr 4).trans rfl
  have c1u := hin.rd.cell1
  have f1u := hin.rd.free 1
  have hrbl := hin.rd.lt
  have hn1 := (List.getElem?_eq_some_iff.1 htk).1
  have hnn : ((n + 1 : Nat) : Int) - 1 = (n : Int) := by omega
  have hn2 : (n : Int) ≤ 1000000 := by omega
  clear hl hc hbody hin
  obtain ⟨k, hk⟩ : ∃ k, C.l.length = k := ⟨_, rfl⟩
  cases k with
  | zero =>
    have hs0 : C.l = [] := List.eq_nil_of_length_eq_zero hk
    have HE := hide (show bodyR h0 c0 wMove (t.line, t.col) (L.drop (n + 1)) = .error (t.line, t.col) by rw [HB.out, if_pos (by rw [← hC, hs0]; rfl)])
    have hrd := HIN.out.rd.setAt n
    have KF := hide (fail_any hrd htk)
    have HG := hide (grown_put (w := u) (World.grownBy.refl u (some rb)) (i := 1) (v := .int .i64 (n : Int)))
    rw [hk] at c6u
    clear hrd htk
    go_enter Tryz.func126, Tryz.ntmps126
    go_wp2_with fail
    refine KF.out.mono ?_
    rintro e w1 ⟨rfl, hb⟩
    refine ⟨rfl, Below.grown (Below.refl _ _) (grown_below HG.out hb) (Nat.le_of_lt hrbl) (fun k hk => by injection hk with hk; omega), ?_⟩
    rw [HE.out]
  | succ m =>
    have KN := hide (name_any HIN.out.rd HL.out hbig)
    have HE := hide (show bodyR h0 c0 wMove (t.line, t.col) (L.drop (n + 1)) = bindR (moveR (L.drop (n + 1))) fun x r => .ok ((h0, { c0 with cues := onLast (fun q => { q with moves := q.moves ++ [x] }) c0.cues }), r) by
      rw [HB.out, if_neg]
      intro h0'
      rw [← hC] at h0'
      have := congrArg List.length h0'
      simp [hk] at this)
    obtain ⟨g, hg⟩ : ∃ g, C.A = some ⟨g, 0, none⟩ := by
      rcases own_cases HIN.out.cues.1 with ⟨_, _, h0⟩ | ⟨g, _, h1, _⟩
      · omega
      · exact ⟨g, h1⟩
    rw [hk] at c6u
    clear HB
    go_enter Tryz.func126, Tryz.ntmps126
    go_wp2_with fail
    refine KN.out.mono ?_
    rintro e w2 ⟨hg2, hx⟩
    have HG2 := hide hg2
    have HX := hide hx
    clear hg2 hx c6u c1u f1u
    cases hnm : nameR (L.drop (n + 1)) with
    | error q =>
      have h1 := HX.out
      rw [hnm] at h1
      simp only at h1
      subst h1
      refine ⟨rfl, Below.grown (Below.refl _ _) HG2.out (Nat.le_of_lt hrbl) (fun k hk => by injection hk with hk; omega), ?_⟩
      rw [HE.out, moveR_name hnm]
      rfl
    | ok v =>
      obtain ⟨nm, r⟩ := v
      have h1 := HX.out
      rw [hnm] at h1
      obtain ⟨rfl, m2, h2, h3⟩ := h1
      have hgd := name_gd (L.drop (n + 1)) HL.out
      rw [hnm] at hgd
      have H5 := hide (show Last5 (L.drop m2) by rw [h2]; exact hgd.2)
      have HR2 := hide h3
      have HN := hide (And.intro hnm h2)
      clear HX h2 h3 hnm hgd KN
      go_upto_region 4 with fail
      have KP := hide (put_any [1, 2, 3, 4] (cur := #[.string nm, .int .i64 0, .int .i64 0, .int .i64 0, .int .i64 0]) (ty := 82) HR2.out HIN.out.low H5.out hbig hts (HC.out.grown HG2.out) (by intro o ho; simp at ho ⊢; omega) (by decide) 155 #[.pointer (some ⟨w2.heap.size, 1, none⟩), .pointer (some ⟨w2.heap.size, 2, none⟩), .pointer (some ⟨w2.heap.size, 3, none⟩), .pointer (some ⟨w2.heap.size, 4, none⟩)] rfl 4)
      go_wp2_with fail
      refine KP.out.mono ?_
      rintro e w3 ⟨hg3, hx⟩
      have HG3 := hide (grown_trans HG2.out hg3)
      have HX := hide hx
      obtain ⟨sb, hsb⟩ : ∃ b, b = w2.heap.size := ⟨_, rfl⟩
      have HSB := hide hsb
      clear hg3 hx KP hsb
      rw [show ([1, 2, 3, 4] : List Nat).length = 4 from rfl] at HX
      rw [← HSB.out] at HX
      rw [← HSB.out]
      cases hns : numsR 4 (L.drop m2) with
      | error q =>
        have h1 := HX.out
        rw [hns] at h1
        simp only at h1
        subst h1
        refine ⟨rfl, Below.grown (Below.refl _ _) HG3.out (Nat.le_of_lt hrbl) (fun k hk => by injection hk with hk; omega), ?_⟩
        rw [HE.out, moveR_nums HN.out.1 (by rw [← HN.out.2]; exact hns)]
        rfl
      | ok v =>
        obtain ⟨l, r2⟩ := v
        have h1 := HX.out
        rw [hns] at h1
        obtain ⟨rfl, hsz, h2, m3, h3, h4⟩ := h1
        have hll := numsR_len 4 hns
        obtain ⟨a1, a2, a3, a4, rfl⟩ : ∃ a1 a2 a3 a4, l = [a1, a2, a3, a4] := by
          match l, hll with
          | [a1, a2, a3, a4], _ => exact ⟨_, _, _, _, rfl⟩
        have HR3 := hide h4
        have hgd2 := nums_gd 4 (L.drop m2) H5.out
        rw [hns] at hgd2
        have H53 := hide (show Last5 (L.drop m3) by rw [h3]; exact hgd2.2)
        clear hgd2
        have HEND := hide (And.intro (moveR_ok HN.out.1 (by rw [← HN.out.2]; exact hns)) (And.intro h3 hns))
        have h2 : w3.heap[sb]? = some (.cells #[.string nm, .int .i64 a1, .int .i64 a2, .int .i64 a3, .int .i64 a4] 82 (0, 0)) := h2
        have HV := hide h2
        clear HX h3 h4 hns hll h2
        obtain ⟨C0, q, hC'⟩ : ∃ C0 q, C.l = C0 ++ [q] := ⟨C.l.dropLast, C.l.getLast (by intro h; rw [h] at hk; simp at hk), (List.dropLast_concat_getLast _).symm⟩
        have hm : m = C0.length := by rw [hC', List.length_append] at hk; simp at hk; omega
        subst hm
        obtain ⟨i8, hi8, hz8, hs8, hb8⟩ := info_parts infoMove
        have HI := hide (And.intro hi8 (And.intro hz8 (And.intro hs8 hb8)))
        have hlen : n + 2 ≤ m3 := by
          have e1 := name_less' HN.out.1
          have e2 := nums_less 4 _ _ _ HEND.out.2.2
          have e3 := congrArg List.length HEND.out.2.1
          have e4 := congrArg List.length HN.out.2
          simp only [List.length_drop] at e1 e2 e3 e4
          omega
        have HIN3 := hide (HIN.out.kept HG3.out HR3.out (by omega))
        have hit0 := (HIN.out.moves hC').2
        have hcu0 := HIN.out.cues.2
        obtain ⟨hg1, hg2, -, hcell⟩ := HIN3.out.lastCue hC' hg
        have hm3 : m3 ≤ 1000000 := by obtain ⟨_, _, _, _, _, h9⟩ := H53.out.head; omega
        have hrb3 := HIN3.out.rd.lt
        have c6z : w3.cell? ⟨rb, 6, none⟩ = some (.slice (some ⟨g, 0, none⟩) (C0.length + 1) C.cap) := ((HIN3.out.rd.cellr 4).trans rfl).trans (by show some (Value.slice C.A C.l.length C.cap) = _; rw [hk, hg])
        have hm1 : ((C0.length + 1 : Nat) : Int) - 1 = (C0.length : Int) := by omega
        have hm0 : (0 : Int) ≤ (C0.length : Int) := by omega
        have hm2 : (C0.length : Int) < ((C0.length + 1 : Nat) : Int) := by omega
        clear hi8 hz8 hs8 hb8 hcell
        go_upto_region 5 with fail
        go_region
        go_wp2_with fail
        obtain ⟨y, hy, hyb⟩ : ∃ y : World, y = w3.drew ∧ Below w3.heap.size w3 y := ⟨_, rfl, (Below.refl _ _).drew⟩
        rw [← hy]
        have HINY := hide (HIN3.out.kept (grown_of_below hyb) (HIN3.out.rd.more hyb) (Nat.le_refl _))
        have HGY := hide (grown_below HG3.out hyb)
        obtain ⟨-, hg3, -, hcell2⟩ := HINY.out.lastCue hC' hg
        have hcI : y.cell? ⟨g, C0.length * 7 + 4, none⟩ = some (.slice q.moves.A q.moves.l.length q.moves.cap) := hcell2 4 _ rfl
        have hsb := Joins.cell_of_block ((hyb.block sb hsz).trans HV.out)
        have hsz2 : sb < y.heap.size := Nat.lt_of_lt_of_le hsz hyb.size
        have hs0 := hsb 0
        have hs1 := hsb 1
        have hs2 := hsb 2
        have hs3 := hsb 3
        have hs4 := hsb 4
        have hrby := HINY.out.rd.lt
        clear hsb hy hyb hcell2 c6z hg2 hsz
        go_region_law ((refine step_append_lies _ (by rfl) (.tmp 47) (.tmp 49) 78 (by rfl) (rb + 1) 82 i8 (.agg #[.string ⟨#[]⟩, .int .i64 0, .int .i64 0, .int .i64 0, .int .i64 0]) 5 48 Tryz.underlying78 HI.out.1 HI.out.2.1 HI.out.2.2.1 HI.out.2.2.2 rfl (by omega) q.moves.val q.moves.l.length (q.moves.l.flatMap MoveD.cells) (by rfl) ((HINY.out.moves hC').1.alloc _) ⟨y.heap.size, 0, none⟩ 1 1 (MoveD.cells ⟨nm, a1, a2, a3, a4⟩) (by go_simp) rfl (World.news_of_block (heap_alloc_new y _)) (fun u hu => by simp [MoveD.cells] at hu; rcases hu with rfl | rfl | rfl | rfl | rfl <;> rfl) (by omega) (by unfold maxLen; omega) (by omega) (by simp; omega) (y.heap.size + 1) (by simp) ?_; intro g4 cap4 w4 hown4 hgr4 hg4 hlt4; obtain ⟨⟨cv, hcv⟩, hfr, hbel4, hin4⟩ := RIn.addMove HINY.out hC' hg hown4 (undrew hgr4) hg4 (by omega)))
        all_goals
          go_end0
          refine ⟨((Below.grown (Below.refl rb u) HGY.out (Nat.le_of_lt hrbl) (fun k hk => by injection hk with hk; omega))).trans (hbel4.mono (by omega)), ?_⟩
          rw [HE.out, HEND.out.1]
          refine ⟨rfl, m3, HEND.out.2.1, S, R, _, A, hin4, hS, hR, ?_, hA⟩
          rw [← hC, hC', List.map_append, List.map_append, List.map_singleton, List.map_singleton, onLast_end]
          rfl
end Go.Proofs.YtnjbfhfjdhfdlaaGreatDoor
