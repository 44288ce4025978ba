/- The reader's method set. -/
import Derived.Test.YtnjbfhfjdhfdlaaGreatDoorSrcPut9
import Derived.Test.YtnjbfhfjdhfdlaaGreatDoorSrcItem
namespace Go.Proofs.YtnjbfhfjdhfdlaaGreatDoor
open Go.RowKit

theorem setR_name {ts : List TokD} {q : Int × Int} (h : nameR ts = .error q) : setR ts = .error q := by rw [setR, h]; rfl
theorem setR_nums {ts r : List TokD} {nm : ByteArray} {q : Int × Int} (h : nameR ts = .ok (nm, r)) (h2 : numsR 9 r = .error q) : setR ts = .error q := by rw [setR, h]; simp only [bindR]; rw [h2]
theorem setR_more {ts r r2 : List TokD} {nm : ByteArray} {a : List Int} {q : Int × Int} (h : nameR ts = .ok (nm, r)) (h2 : numsR 9 r = .ok (a, r2)) (h3 : moreR r2.length r2 = .error q) : setR ts = .error q := by rw [setR, h]; simp only [bindR]; rw [h2]; simp only; rw [h3]
theorem setR_ok {ts r r2 r3 : List TokD} {nm : ByteArray} {a l : List Int} (h : nameR ts = .ok (nm, r)) (h2 : numsR 9 r = .ok (a, r2)) (h3 : moreR r2.length r2 = .ok (l, r3)) : setR ts = .ok (⟨nm, nth a 0, nth a 1, nth a 2, nth a 3, l, nth a 4, nth a 5, nth a 6, nth a 7, nth a 8, [], []⟩, r3) := by rw [setR, h]; simp only [bindR]; rw [h2]; simp only; rw [h3]
theorem grown_drew {w w' : World} {r : Option Nat} (h : w.grownBy w' r) : w.grownBy w'.drew r := ⟨h.os, h.tape, h.output, h.size, h.block⟩
theorem list_succ {α : Type} {k : Nat} {l : List α} (h : l.length = k + 1) : ∃ a t, l = a :: t ∧ t.length = k := by
  cases l with
  | nil => cases h
  | cons a t => exact ⟨a, t, rfl, by simpa using h⟩
theorem setBox9 {nm : ByteArray} {ty : TypeId} {x : Option Obj} (a : List Int) (hll : a.length = 9) (h : x = some (.cells (putN #[.string nm, .int .i64 0, .int .i64 0, .int .i64 0, .int .i64 0, .slice none 0 0, .int .i64 0, .int .i64 0, .int .i64 0, .int .i64 0, .int .i64 0, .slice none 0 0, .slice none 0 0] [1, 2, 3, 4, 6, 7, 8, 9, 10] a) ty (0, 0))) : x = some (.cells (setBox nm a (.slice none 0 0)) ty (0, 0)) := by
  obtain ⟨a1, t1, rfl, h1⟩ := list_succ hll
  obtain ⟨a2, t2, rfl, h2⟩ := list_succ h1
  obtain ⟨a3, t3, rfl, h3⟩ := list_succ h2
  obtain ⟨a4, t4, rfl, h4⟩ := list_succ h3
  obtain ⟨a5, t5, rfl, h5⟩ := list_succ h4
  obtain ⟨a6, t6, rfl, h6⟩ := list_succ h5
  obtain ⟨a7, t7, rfl, h7⟩ := list_succ h6
  obtain ⟨a8, t8, rfl, h8⟩ := list_succ h7
  obtain ⟨a9, t9, rfl, h9⟩ := list_succ h8
  obtain rfl := List.eq_nil_of_length_eq_zero h9
  rw [putN_set] at h
  exact h
/-- a region's way that ends (by a panic): nothing follows -/
theorem dead_end {G : Prop} {md : Region.Mode} {a : Act} {w : World} (h : G) (_ : wpAny Tryz.prog md #[] (fun _ _ _ => True) 0 #[] a w) : G := h
theorem infoInt : (Tryz.prog.info? 3).map (fun i => (i.zero, i.size, i.bytes)) = some (some (.int .i64 0), 1, 8) := by kernel_rfl
theorem infoSet : (Tryz.prog.info? 63).map (fun i => (i.zero, i.size, i.bytes)) = some (some (.agg #[.string ⟨#[]⟩, .int .i64 0, .int .i64 0, .int .i64 0, .int .i64 0, .slice none 0 0, .int .i64 0, .int .i64 0, .int .i64 0, .int .i64 0, .int .i64 0, .slice none 0 0, .slice none 0 0]), 13, 160) := by kernel_rfl
set_option maxRecDepth 100000 in
set_option maxHeartbeats 8000000 in
theorem set_any {rb n : Nat} {tv : Value} {L : List TokD} {h0 : HouseP} {c0 : SheetP} {u w0 : World} (h : RSt rb tv L n h0 c0 u) (p : Int × Int) (hl : Last5 (L.drop n)) (hbig : L.length ≤ 1000000) (hts : ∀ t ∈ L, t.text.size ≤ 1000000) (hc : Ctx w0 rb u) :
    Calls Tryz.prog 122 #[.pointer (some ⟨rb, 0, none⟩)] u (StPost rb tv L (bodyR h0 c0 wSet p (L.drop n)) u) := by
  obtain ⟨S, R, C, A, hin, hS, hR, hC, hA⟩ := h
  have HE := hide (show bodyR h0 c0 wSet p (L.drop n) = bindR (setR (L.drop n)) fun x r => .ok (({ h0 with sets := h0.sets ++ [x] }, c0), r) by
    rw [bodyR, if_neg (by decide), if_pos rfl])
  have HIN := hide hin
  have HL := hide hl
  have HC := hide hc
  have hrbl := hin.rd.lt
  clear hl hc hin
  have KN := hide (name_any HIN.out.rd HL.out hbig)
  go_enter Tryz.func122, Tryz.ntmps122
  go_wp2_with fail
  refine KN.out.mono ?_
  rintro e w2 ⟨hg2, hx⟩
  have HG2 := hide hg2
  have HX := hide hx
  clear hg2 hx
  cases hnm : nameR (L.drop n) with
  | error q =>
    have h1 := HX.out
    rw [hnm] at h1
    simp only at h1
    subst h1
    refine ⟨rfl, Below.grown (Below.refl _ _) HG2.out (Nat.le_of_lt hrbl) (fun k hk => by injection hk with hk; omega), ?_⟩
    rw [HE.out, setR_name hnm]
    rfl
  | ok v =>
    obtain ⟨nm, r⟩ := v
    have h1 := HX.out
    rw [hnm] at h1
    obtain ⟨rfl, m2, h2, h3⟩ := h1
    have hgd := name_gd (L.drop n) HL.out
    rw [hnm] at hgd
    have H5 := hide (show Last5 (L.drop m2) by rw [h2]; exact hgd.2)
    have HR2 := hide h3
    have HN := hide (And.intro hnm h2)
    clear HX h2 h3 hnm hgd KN
    go_upto_region 1 with fail
    have KP := hide (put_any [1, 2, 3, 4, 6, 7, 8, 9, 10] (cur := #[.string nm, .int .i64 0, .int .i64 0, .int .i64 0, .int .i64 0, .slice none 0 0, .int .i64 0, .int .i64 0, .int .i64 0, .int .i64 0, .int .i64 0, .slice none 0 0, .slice none 0 0]) (ty := 63) HR2.out HIN.out.low H5.out hbig hts (HC.out.grown HG2.out) (by intro o ho; simp at ho ⊢; omega) (by decide) 155 #[.pointer (some ⟨w2.heap.size, 1, none⟩), .pointer (some ⟨w2.heap.size, 2, none⟩), .pointer (some ⟨w2.heap.size, 3, none⟩), .pointer (some ⟨w2.heap.size, 4, none⟩), .pointer (some ⟨w2.heap.size, 6, none⟩), .pointer (some ⟨w2.heap.size, 7, none⟩), .pointer (some ⟨w2.heap.size, 8, none⟩), .pointer (some ⟨w2.heap.size, 9, none⟩), .pointer (some ⟨w2.heap.size, 10, none⟩)] rfl 9)
    go_wp2_with fail
    refine KP.out.mono ?_
    rintro e w3 ⟨hg3, hx⟩
    have HG3 := hide (grown_trans HG2.out hg3)
    have HX := hide hx
    obtain ⟨sb, hsb⟩ : ∃ b, b = w2.heap.size := ⟨_, rfl⟩
    have HSB := hide hsb
    clear hg3 hx KP hsb
    rw [show ([1, 2, 3, 4, 6, 7, 8, 9, 10] : List Nat).length = 9 from rfl] at HX
    rw [← HSB.out] at HX
    rw [← HSB.out]
    cases hns : numsR 9 (L.drop m2) with
    | error q =>
      have h1 := HX.out
      rw [hns] at h1
      simp only at h1
      subst h1
      refine ⟨rfl, Below.grown (Below.refl _ _) HG3.out (Nat.le_of_lt hrbl) (fun k hk => by injection hk with hk; omega), ?_⟩
      rw [HE.out, setR_nums HN.out.1 (by rw [← HN.out.2]; exact hns)]
      rfl
    | ok v =>
      obtain ⟨a, r2⟩ := v
      have h1 := HX.out
      rw [hns] at h1
      obtain ⟨rfl, hsz, h2, m3, h3, h4⟩ := h1
      have hll := numsR_len 9 hns
      have hbox := setBox9 a hll h2
      have HR3 := hide h4
      have hgd2 := nums_gd 9 (L.drop m2) H5.out
      rw [hns] at hgd2
      have H53 := hide (show Last5 (L.drop m3) by rw [h3]; exact hgd2.2)
      have hlen : n + 1 ≤ m3 := by
        have e1 := name_less' HN.out.1
        have e2 := nums_less 9 _ _ _ hns
        have e3 := congrArg List.length h3
        have e4 := congrArg List.length HN.out.2
        obtain ⟨_, _, _, _, _, h9⟩ := H53.out.head
        simp only [List.length_drop] at e1 e2 e3 e4
        omega
      have HIN3 := hide (HIN.out.kept HG3.out HR3.out (by omega))
      have hsbu : u.heap.size ≤ sb := by rw [HSB.out]; exact HG2.out.size
      have HST := hide (show SetSt rb sb tv L h0.name h0.height S R C A u nm a (.slice none ([] : List Int).length 0) [] m3 w3 from
        ⟨HIN3.out, HIN3.out.rows.nil_cons 3 1, hbox, HG3.out, fun k hk => by simp [Value.ownBlock] at hk, Nat.zero_le _⟩)
      have HNS := hide (And.intro (show numsR 9 r = .ok (a, r2) by rw [← HN.out.2]; exact hns) h3)
      have HSEP := hide (show ∀ r ∈ memRows S R C A, r.v.ownBlock ≠ some sb from fun r hr e => by
        have h1 := World.ownsRow.lt (HIN.out.rows.all r hr) sb e
        omega)
      have hne : sb ≠ rb := by omega
      clear hgd2 HX h2 h3 h4 hns hll hbox
      obtain ⟨i8, hi8, hz8, hs8, hb8⟩ := info_parts infoInt
      have HI := hide (And.intro hi8 (And.intro hz8 (And.intro hs8 hb8)))
      clear hi8 hz8 hs8 hb8
      go_wp2_with fail
      go_loopw [3] (fun v wr => ∃ (l : List Int) (lA : Option Addr) (lc m : Nat) (more : Bool), v = .bool more ∧ Hid (n + 1 + l.length ≤ m) ∧ Hid (SetSt rb sb tv L h0.name h0.height S R C A u nm a (.slice lA l.length lc) l m wr) ∧ Hid (Last5 (L.drop m)) ∧ Hid (MoreTo (L.drop m3).length (L.drop m3) l more (L.drop m))) (fun _ wr => L.length - numAt wr ⟨rb, 1, none⟩)
      case atStart => exact ⟨[], none, 0, m3, true, rfl, hide (by simpa using hlen), HST, H53, hide (MoreTo.start _)⟩
      case round =>
        obtain ⟨l, lA, lc, m, more, rfl, hcn, hst, h5, hmo⟩ := hrel
        cases more with
        | false =>
          obtain ⟨i9, hi9, hz9, hs9, hb9⟩ := info_parts infoSet
          have HI9 := hide (And.intro hi9 (And.intro hz9 (And.intro hs9 hb9)))
          have hcnt := hcn.out
          have hset0 : S.l.length ≤ n := HIN.out.cnt ⟨63, 13, S.val, S.l.length, S.l.flatMap SetD.cells⟩ (by unfold memRows; exact List.mem_cons_self)
          have hm1 : m ≤ 1000000 := by obtain ⟨_, _, _, _, _, h9⟩ := h5.out.head; omega
          have hrb5 := hst.out.rin.rd.lt
          have c6 : wr.cell? ⟨rb, 4, none⟩ = some (.slice S.A S.l.length S.cap) := (hst.out.rin.rd.cellr 2).trans rfl
          have hsb := Joins.cell_of_block hst.out.box
          have hs0 : wr.cell? ⟨sb, 0, none⟩ = some (.string nm) := (hsb 0).trans rfl
          have hs1 : wr.cell? ⟨sb, 1, none⟩ = some (.int .i64 (nth a 0)) := (hsb 1).trans rfl
          have hs2 : wr.cell? ⟨sb, 2, none⟩ = some (.int .i64 (nth a 1)) := (hsb 2).trans rfl
          have hs3 : wr.cell? ⟨sb, 3, none⟩ = some (.int .i64 (nth a 2)) := (hsb 3).trans rfl
          have hs4 : wr.cell? ⟨sb, 4, none⟩ = some (.int .i64 (nth a 3)) := (hsb 4).trans rfl
          have hs5 : wr.cell? ⟨sb, 5, none⟩ = some (.slice lA l.length lc) := (hsb 5).trans rfl
          have hs6 : wr.cell? ⟨sb, 6, none⟩ = some (.int .i64 (nth a 4)) := (hsb 6).trans rfl
          have hs7 : wr.cell? ⟨sb, 7, none⟩ = some (.int .i64 (nth a 5)) := (hsb 7).trans rfl
          have hs8 : wr.cell? ⟨sb, 8, none⟩ = some (.int .i64 (nth a 6)) := (hsb 8).trans rfl
          have hs9 : wr.cell? ⟨sb, 9, none⟩ = some (.int .i64 (nth a 7)) := (hsb 9).trans rfl
          have hs10 : wr.cell? ⟨sb, 10, none⟩ = some (.int .i64 (nth a 8)) := (hsb 10).trans rfl
          have hs11 : wr.cell? ⟨sb, 11, none⟩ = some (.slice none 0 0) := (hsb 11).trans rfl
          have hs12 : wr.cell? ⟨sb, 12, none⟩ = some (.slice none 0 0) := (hsb 12).trans rfl
          clear hi9 hz9 hb9 hsb
          go_wp2_with fail
          go_region_law ((refine step_append_lies _ (by rfl) (.tmp 36) (.tmp 38) 22 (by rfl) (rb + 1) 63 i9 (.agg #[.string ⟨#[]⟩, .int .i64 0, .int .i64 0, .int .i64 0, .int .i64 0, .slice none 0 0, .int .i64 0, .int .i64 0, .int .i64 0, .int .i64 0, .int .i64 0, .slice none 0 0, .slice none 0 0]) 13 160 Tryz.underlying22 HI9.out.1 HI9.out.2.1 HI9.out.2.2.1 HI9.out.2.2.2 rfl (by omega) S.val S.l.length (S.l.flatMap SetD.cells) (by rfl) (hst.out.rin.sets.alloc _) ⟨wr.heap.size, 0, none⟩ 1 1 (SetD.cells ⟨nm, nth a 0, nth a 1, nth a 2, nth a 3, ⟨lA, lc, l⟩, nth a 4, nth a 5, nth a 6, nth a 7, nth a 8, ⟨none, 0, []⟩, ⟨none, 0, []⟩⟩) (by go_simp) rfl (World.news_of_block (heap_alloc_new wr _)) (fun u hu => by simp [SetD.cells] at hu; rcases hu with rfl | rfl | rfl | rfl | rfl | rfl | rfl | rfl | rfl | rfl | rfl | rfl | rfl <;> rfl) (by omega) (by unfold maxLen; omega) (by omega) (by simp; omega) (wr.heap.size + 1) (by simp) ?_; intro g4 cap4 w6 hown4 hgr4 hg4 hlt4; obtain ⟨⟨cv, hcv⟩, hfr, hbel4, hin4⟩ := RIn.addSet (s := ⟨nm, nth a 0, nth a 1, nth a 2, nth a 3, ⟨lA, lc, l⟩, nth a 4, nth a 5, nth a 6, nth a 7, nth a 8, ⟨none, 0, []⟩, ⟨none, 0, []⟩⟩) hst.out.rin rfl rfl hst.out.rows hst.out.cnt hown4 (undrew hgr4) hg4 (by omega)))
          all_goals
            go_end0
            refine ⟨((Below.grown (Below.refl rb u) hst.out.frame (Nat.le_of_lt hrbl) (fun k hk => by injection hk with hk; omega))).trans (hbel4.mono (Nat.le_refl _)), ?_⟩
            rw [HE.out, setR_ok HN.out.1 HNS.out.1 (by rw [← HNS.out.2]; exact hmo.out)]
            refine ⟨rfl, m, rfl, _, R, C, A, hin4, ?_, hR, hC, hA⟩
            rw [← hS, List.map_append, List.map_singleton]
            rfl
        | true =>
          have hcnt := hcn.out
          obtain ⟨t5, r5, _, _, _, hml⟩ := h5.out.head
          have KN := hide (number_any (u := wr.drew) ⟨hst.out.rin.rd.box, hst.out.rin.rd.toks⟩ h5.out hbig hts (HC.out.grown (grown_drew hst.out.frame)))
          cases hv : numR (L.drop m) with
          | error q =>
            have KE := hide (show Calls Tryz.prog 86 #[.pointer (some ⟨rb, 0, none⟩)] wr.drew (fun e w' => wr.drew.grownBy w' (some rb) ∧ e = .panicked [{ v := .iface 131 (.agg #[.int .i64 q.1, .int .i64 q.2]), recovered := false }]) from KN.out.mono (fun e w' h => by
              have h1 := h.2
              rw [hv] at h1
              exact ⟨h.1, h1⟩))
            have HF := hide (setR_more HN.out.1 HNS.out.1 (by rw [← HNS.out.2]; exact hmo.out.err h5.out.ne hv))
            have cl : wr.cell? ⟨sb, 5, none⟩ = some (.slice lA l.length lc) := (Joins.cell_of_block hst.out.box 5).trans rfl
            clear KN
            go_wp2_with fail
            go_region_law ((go_simp; go_at_call 86; refine KE.out.mono ?_; rintro e w1 ⟨hg1, rfl⟩; refine dead_end (md := .any) (a := ⟨#[], []⟩) (w := w1) ?_ ?_; focus (go_simp; exact ⟨rfl, Below.grown (Below.refl _ _) (grown_trans hst.out.frame (undrew hg1)) (Nat.le_of_lt hrbl) (fun k hk => by injection hk with hk; omega), by rw [HE.out, HF.out]; rfl⟩)))
            all_goals exact trivial
          | ok v =>
            obtain ⟨i, r⟩ := v
            have KO := hide (show Calls Tryz.prog 86 #[.pointer (some ⟨rb, 0, none⟩)] wr.drew (fun e w' => wr.drew.grownBy w' (some rb) ∧ e = .returned (.int .i64 i) ∧ ∃ n, L.drop n = r ∧ Rd0 rb tv L n (memRest h0.name h0.height S R C A) w') from KN.out.mono (fun e w' h => by
              have h1 := h.2
              rw [hv] at h1
              exact ⟨h.1, h1⟩))
            have cl : wr.cell? ⟨sb, 5, none⟩ = some (.slice lA l.length lc) := (Joins.cell_of_block hst.out.box 5).trans rfl
            have hm1 : m ≤ 1000000 := by omega
            have HNL := hide (num_less _ _ _ hv)
            clear KN
            go_wp2_with fail
            go_region_law (first
              | (go_simp; go_at_call 86; refine KO.out.mono ?_; rintro e w1 ⟨hg1, rfl, m1, hd1, hr1⟩
                 have hmm : m + 1 ≤ m1 := by have e1 := HNL.out; have e2 := congrArg List.length hd1; simp only [List.length_drop] at e1 e2; omega
                 have HS1 := hide (hst.out.kept hne (undrew hg1) hr1 (by omega))
                 have cl1 : w1.cell? ⟨sb, 5, none⟩ = some (.slice lA l.length lc) := (Joins.cell_of_block HS1.out.box 5).trans rfl
                 have cl2 : ∀ o, (w1.alloc o).cell? ⟨sb, 5, none⟩ = some (.slice lA l.length lc) := fun o => (World.cell?_of_block (a := ⟨sb, 5, none⟩) (heap_alloc_old w1 o (Array.getElem?_eq_some_iff.1 HS1.out.box).1)).trans cl1
                 have hrb1 := hr1.lt
                 have HD1 := hide hd1
                 clear hd1 hg1 hr1)
              | (refine step_append_lies _ (by rfl) (.tmp 25) (.tmp 28) 59 (by rfl) (rb + 1) 3 i8 (.int .i64 0) 1 8 Tryz.underlying59 HI.out.1 HI.out.2.1 HI.out.2.2.1 HI.out.2.2.2 rfl (by omega) (.slice lA l.length lc) l.length (l.flatMap intCells) (by rfl) (HS1.out.own.alloc _) ⟨w1.heap.size, 0, none⟩ 1 1 (intCells i) (by go_simp) rfl (World.news_of_block (heap_alloc_new w1 _)) (fun u hu => by simp [intCells] at hu; subst hu; rfl) (by omega) (by unfold maxLen; omega) (by omega) (by simp; omega) (w1.heap.size + 1) (by simp) ?_; intro g4 cap4 w4 hown4 hgr4 hg4 hlt4; obtain ⟨⟨cv, hcv⟩, hfr, hst4⟩ := HS1.out.append hsbu (by omega) hown4 (by first | exact hgr4 | exact undrew hgr4) hg4 (by omega) HSEP.out))
            all_goals
              have hgd := (num_gd (L.drop m)) h5.out
              rw [hv] at hgd
              have H5 := hide (show Last5 (L.drop m1) by rw [HD1.out]; exact hgd.2)
              have HMO := hide (hmo.out.step h5.out.ne hv)
              rw [← HD1.out] at HMO
              obtain ⟨t, rr, htr, hg, hr, hnl⟩ := H5.out.head
              have HST4 := hide hst4
              have KNW := hide (Gives.first (now_any hst4.rin.rd hg))
              simp only [TokD.val] at KNW
              have g0 := fld0
              clear hgd hg hst4 hown4 hgr4 hg4 hlt4 hcv hfr cl cl1 cl2
              go_simp
              go_wp2_with (go_at_call 87; refine KNW.out.mono ?_; rintro e w5 ⟨rfl, z, rfl⟩)
              have hke : decide (kindT (L.drop m1) ≠ 4) = (t.kind != 4) := by
                rw [htr]
                show decide (t.kind ≠ 4) = _
                by_cases h : t.kind = 4 <;> simp [h]
              have hz := HST4.out.rin.rd.more z.below
              have hn1 := hz.numAt
              have hn0 := hst.out.rin.rd.numAt
              refine ⟨⟨l ++ [i], some ⟨g4, 0, none⟩, cap4, m1, (t.kind != 4), rfl, hide (by rw [List.length_append, List.length_singleton]; omega), hide (by rw [List.length_append, List.length_singleton]; exact HST4.out.kept hne (grown_of_below z.below) hz (Nat.le_refl _)), H5, hide (by rw [← hke]; exact HMO.out)⟩, ?_⟩
              rw [hn1, hn0]
              omega
end Go.Proofs.YtnjbfhfjdhfdlaaGreatDoor
