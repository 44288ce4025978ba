/- The reader's methods item and brick. -/
import Derived.Test.YtnjbfhfjdhfdlaaGreatDoorSrcPut9
import Derived.Test.YtnjbfhfjdhfdlaaGreatDoorSrcToks
import Derived.Deep.RegionLaw
namespace Go.Proofs.YtnjbfhfjdhfdlaaGreatDoor
open Go.RowKit

theorem numsR_len : ∀ (k : Nat) {ts r : List TokD} {l : List Int}, numsR k ts = .ok (l, r) → l.length = k
  | 0, ts, r, l, h => by simp only [numsR, Except.ok.injEq, Prod.mk.injEq] at h; rw [← h.1]; rfl
  | k + 1, ts, r, l, h => by
    rw [nums_bind] at h
    cases h1 : numR ts with
    | error p => rw [h1] at h; simp [bindR] at h
    | ok v =>
      obtain ⟨a, r1⟩ := v
      rw [h1] at h
      simp only [bindR] at h
      cases h2 : numsR k r1 with
      | error p => rw [h2] at h; simp at h
      | ok v =>
        obtain ⟨l2, r2⟩ := v
        rw [h2] at h
        simp only [Except.ok.injEq, Prod.mk.injEq] at h
        rw [← h.1, List.length_cons, numsR_len k h2]
theorem undrew {w w' : World} {r : Option Nat} (h : w.drew.grownBy w' r) : w.grownBy w' r := ⟨h.os, h.tape, h.output, h.size, h.block⟩
theorem name_less' {ts r : List TokD} {nm : ByteArray} (h : nameR ts = .ok (nm, r)) : r.length < ts.length := take_less _ _ ts nm r h
theorem infoItem : (Tryz.prog.info? 75).map (fun i => (i.zero, i.size, i.bytes)) = some (some (.agg #[.string ⟨#[]⟩, .int .i64 0, .int .i64 0, .int .i64 0, .int .i64 0, .int .i64 0, .int .i64 0]), 7, 64) := by kernel_rfl
theorem itemR_name {ts : List TokD} {q : Int × Int} (h : nameR ts = .error q) : itemR ts = .error q := by rw [itemR, h]; rfl
theorem itemR_nums {ts r : List TokD} {nm : ByteArray} {q : Int × Int} (h : nameR ts = .ok (nm, r)) (h2 : numsR 6 r = .error q) : itemR ts = .error q := by rw [itemR, h]; simp only [bindR]; rw [h2]
theorem itemR_ok {ts r r2 : List TokD} {nm : ByteArray} {a : List Int} (h : nameR ts = .ok (nm, r)) (h2 : numsR 6 r = .ok (a, r2)) : itemR ts = .ok (⟨nm, nth a 0, nth a 1, nth a 2, nth a 3, nth a 4, nth a 5⟩, r2) := by rw [itemR, h]; simp only [bindR]; rw [h2]
set_option maxRecDepth 100000 in
set_option maxHeartbeats 8000000 in
theorem item_any {rb n : Nat} {tv : Value} {L : List TokD} {h0 : HouseP} {c0 : SheetP} {u w0 : World} (h : RSt rb tv L (n + 1) h0 c0 u) {t : TokD} (htk : L[n]? = some t) (hl : Last5 (L.drop (n + 1))) (hbig : L.length ≤ 1000000) (hts : ∀ t ∈ L, t.text.size ≤ 1000000) (hc : Ctx w0 rb u) :
    Calls Tryz.prog 123 #[.pointer (some ⟨rb, 0, none⟩)] u (StPost rb tv L (bodyR h0 c0 wItem (t.line, t.col) (L.drop (n + 1))) u) := by
  obtain ⟨S, R, C, A, hin, hS, hR, hC, hA⟩ := h
  have hbody : bodyR h0 c0 wItem (t.line, t.col) (L.drop (n + 1)) = if h0.sets = [] then .error (t.line, t.col) else bindR (itemR (L.drop (n + 1))) fun x r => .ok (({ h0 with sets := onLast (fun s => { s with items := s.items ++ [x] }) h0.sets }, c0), r) := by
    rw [bodyR, if_neg (by decide), if_neg (by decide), if_pos rfl]
  have KL := hide (last_any hin htk hbig)
  have HB := hide hbody
  have HIN := hide hin
  have HL := hide hl
  have HC := hide hc
  clear hl hc hbody hin
  obtain ⟨k, hk⟩ : ∃ k, S.l.length = k := ⟨_, rfl⟩
  cases k with
  | zero =>
    have hs0 : S.l = [] := List.eq_nil_of_length_eq_zero hk
    have HE := hide (show bodyR h0 c0 wItem (t.line, t.col) (L.drop (n + 1)) = .error (t.line, t.col) by rw [HB.out, if_pos (by rw [← hS, hs0]; rfl)])
    go_enter Tryz.func123, Tryz.ntmps123
    go_wp2_with fail
    refine KL.out.mono ?_
    rintro e w1 ⟨h1, -⟩
    obtain ⟨hg, rfl⟩ := h1 hs0
    refine ⟨rfl, Below.grown (Below.refl _ _) hg (Nat.le_of_lt HIN.out.rd.lt) (fun k hk => by injection hk with hk; omega), ?_⟩
    rw [HE.out]
  | succ m =>
    go_enter Tryz.func123, Tryz.ntmps123
    go_wp2_with fail
    refine KL.out.mono ?_
    rintro e w1 ⟨-, h2⟩
    obtain ⟨g, hg, rfl, z, rfl⟩ := h2 m hk
    have KN := hide (name_any (HIN.out.rd.more z.below) HL.out hbig)
    have HE := hide (show bodyR h0 c0 wItem (t.line, t.col) (L.drop (n + 1)) = bindR (itemR (L.drop (n + 1))) fun x r => .ok (({ h0 with sets := onLast (fun s => { s with items := s.items ++ [x] }) h0.sets }, c0), r) by
      rw [HB.out, if_neg]
      intro h0'
      rw [← hS] at h0'
      have := congrArg List.length h0'
      simp [hk] at this)
    have hgz := World.grownBy.refl u (some rb) |> fun q => grown_below q z.below
    have hrbl := HIN.out.rd.lt
    clear h2 HB KL
    go_wp2_with fail
    refine KN.out.mono ?_
    rintro e w2 ⟨hg2, hx⟩
    have HG2 := hide (grown_trans hgz hg2)
    have HX := hide hx
    clear hg2 hx hgz
    cases hnm : nameR (L.drop (n + 1)) with
    | error q =>
      have h1 := HX.out
      rw [hnm] at h1
      simp only at h1
      subst h1
      refine ⟨rfl, Below.grown (Below.refl _ _) HG2.out (Nat.le_of_lt hrbl) (fun k hk => by injection hk with hk; omega), ?_⟩
      rw [HE.out, itemR_name hnm]
      rfl
    | ok v =>
      obtain ⟨nm, r⟩ := v
      have h1 := HX.out
      rw [hnm] at h1
      obtain ⟨rfl, m2, h2, h3⟩ := h1
      have hgd := name_gd (L.drop (n + 1)) HL.out
      rw [hnm] at hgd
      have H5 := hide (show Last5 (L.drop m2) by rw [h2]; exact hgd.2)
      have HR2 := hide h3
      have HN := hide (And.intro hnm h2)
      clear HX h2 h3 hnm hgd KN
      go_upto_region 2 with fail
      have KP := hide (put_any [1, 2, 3, 4, 5, 6] (cur := #[.string nm, .int .i64 0, .int .i64 0, .int .i64 0, .int .i64 0, .int .i64 0, .int .i64 0]) (ty := 75) HR2.out HIN.out.low H5.out hbig hts (HC.out.grown HG2.out) (by intro o ho; simp at ho ⊢; omega) (by decide) 155 #[.pointer (some ⟨w2.heap.size, 1, none⟩), .pointer (some ⟨w2.heap.size, 2, none⟩), .pointer (some ⟨w2.heap.size, 3, none⟩), .pointer (some ⟨w2.heap.size, 4, none⟩), .pointer (some ⟨w2.heap.size, 5, none⟩), .pointer (some ⟨w2.heap.size, 6, none⟩)] rfl 6)
      go_wp2_with fail
      refine KP.out.mono ?_
      rintro e w3 ⟨hg3, hx⟩
      have HG3 := hide (grown_trans HG2.out hg3)
      have HX := hide hx
      obtain ⟨sb, hsb⟩ : ∃ b, b = w2.heap.size := ⟨_, rfl⟩
      have HSB := hide hsb
      clear hg3 hx KP hsb
      rw [show ([1, 2, 3, 4, 5, 6] : List Nat).length = 6 from rfl] at HX
      rw [← HSB.out] at HX
      rw [← HSB.out]
      cases hns : numsR 6 (L.drop m2) with
      | error q =>
        have h1 := HX.out
        rw [hns] at h1
        simp only at h1
        subst h1
        refine ⟨rfl, Below.grown (Below.refl _ _) HG3.out (Nat.le_of_lt hrbl) (fun k hk => by injection hk with hk; omega), ?_⟩
        rw [HE.out, itemR_nums HN.out.1 (by rw [← HN.out.2]; exact hns)]
        rfl
      | ok v =>
        obtain ⟨l, r2⟩ := v
        have h1 := HX.out
        rw [hns] at h1
        obtain ⟨rfl, hsz, h2, m3, h3, h4⟩ := h1
        have hll := numsR_len 6 hns
        obtain ⟨a1, a2, a3, a4, a5, a6, rfl⟩ : ∃ a1 a2 a3 a4 a5 a6, l = [a1, a2, a3, a4, a5, a6] := by
          match l, hll with
          | [a1, a2, a3, a4, a5, a6], _ => exact ⟨_, _, _, _, _, _, rfl⟩
        have HR3 := hide h4
        have hgd2 := nums_gd 6 (L.drop m2) H5.out
        rw [hns] at hgd2
        have H53 := hide (show Last5 (L.drop m3) by rw [h3]; exact hgd2.2)
        clear hgd2
        have HEND := hide (And.intro (itemR_ok HN.out.1 (by rw [← HN.out.2]; exact hns)) (And.intro h3 hns))
        have h2 : w3.heap[sb]? = some (.cells #[.string nm, .int .i64 a1, .int .i64 a2, .int .i64 a3, .int .i64 a4, .int .i64 a5, .int .i64 a6] 75 (0, 0)) := h2
        have HV := hide h2
        clear HX h3 h4 hns hll h2
        obtain ⟨S0, s, hS'⟩ : ∃ S0 s, S.l = S0 ++ [s] := ⟨S.l.dropLast, S.l.getLast (by intro h; rw [h] at hk; simp at hk), (List.dropLast_concat_getLast _).symm⟩
        have hm : m = S0.length := by rw [hS', List.length_append] at hk; simp at hk; omega
        subst hm
        obtain ⟨i8, hi8, hz8, hs8, hb8⟩ := info_parts infoItem
        have HI := hide (And.intro hi8 (And.intro hz8 (And.intro hs8 hb8)))
        have hlen : n + 2 ≤ m3 := by
          have e1 := name_less' HN.out.1
          have e2 := nums_less 6 _ _ _ HEND.out.2.2
          have e3 := congrArg List.length HEND.out.2.1
          have e4 := congrArg List.length HN.out.2
          simp only [List.length_drop] at e1 e2 e3 e4
          omega
        have HIN3 := hide (HIN.out.kept HG3.out HR3.out (by omega))
        have hit := (HIN3.out.items hS').2
        have hit0 := (HIN.out.items hS').2
        obtain ⟨hg1, hg2, -, hcell⟩ := HIN3.out.lastSet hS' hg
        have hcI : w3.cell? ⟨g, S0.length * 13 + 11, none⟩ = some (.slice s.items.A s.items.l.length s.items.cap) := hcell 11 _ rfl
        have hm3 : m3 ≤ 1000000 := by obtain ⟨_, _, _, _, _, h9⟩ := H53.out.head; omega
        have hsb := Joins.cell_of_block HV.out
        have hs0 := hsb 0
        have hs1 := hsb 1
        have hs2 := hsb 2
        have hs3 := hsb 3
        have hs4 := hsb 4
        have hs5 := hsb 5
        have hs6 := hsb 6
        clear hi8 hz8 hs8 hb8 hcell hsb
        go_wp2_with fail
        go_region_law ((refine step_append_lies _ (by rfl) (.tmp 22) (.tmp 24) 60 (by rfl) (rb + 1) 75 i8 (.agg #[.string ⟨#[]⟩, .int .i64 0, .int .i64 0, .int .i64 0, .int .i64 0, .int .i64 0, .int .i64 0]) 7 64 Tryz.underlying60 HI.out.1 HI.out.2.1 HI.out.2.2.1 HI.out.2.2.2 rfl (by omega) s.items.val s.items.l.length (s.items.l.flatMap ItemD.cells) (by rfl) ((HIN3.out.items hS').1.alloc _) ⟨w3.heap.size, 0, none⟩ 1 1 (ItemD.cells ⟨nm, a1, a2, a3, a4, a5, a6⟩) (by go_simp) rfl (World.news_of_block (heap_alloc_new w3 _)) (fun u hu => by simp [ItemD.cells] at hu; rcases hu with rfl | rfl | rfl | rfl | rfl | rfl | rfl <;> rfl) (by omega) (by unfold maxLen; omega) (by omega) (by simp; omega) (w3.heap.size + 1) (by simp) ?_; intro g4 cap4 w4 hown4 hgr4 hg4 hlt4; obtain ⟨⟨cv, hcv⟩, hfr, hbel4, hin4⟩ := RIn.addItem HIN3.out hS' hg hown4 (undrew hgr4) hg4 (by omega)))
        all_goals
          go_end0
          refine ⟨((Below.grown (Below.refl rb u) HG3.out (Nat.le_of_lt hrbl) (fun k hk => by injection hk with hk; omega))).trans (hbel4.mono (by omega)), ?_⟩
          rw [HE.out, HEND.out.1]
          refine ⟨rfl, m3, HEND.out.2.1, _, R, C, A, hin4, ?_, hR, hC, hA⟩
          rw [← hS, hS', List.map_append, List.map_append, List.map_singleton, List.map_singleton, onLast_end]
          rfl
end Go.Proofs.YtnjbfhfjdhfdlaaGreatDoor
