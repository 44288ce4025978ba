/- loftblockref01.Tokens: what it computes. -/
import Derived.Test.YtplblogdgbnbdaaDoorDecRefNext
import Derived.Test.YtplblogdgbnbdaaDoorDecTokens
namespace Go.Proofs.YtplblogdgbnbdaaDoor
open Go.RowKit

/-- the kinds and lengths that there are -/
theorem nextE_cases (c : UInt8) (r : List UInt8) : ((nextE c (c :: r)).1 = -1 ∧ (nextE c (c :: r)).2 ≤ (c :: r).length) ∨ (((nextE c (c :: r)).1 = 0 ∨ (nextE c (c :: r)).1 = 1 ∨ (nextE c (c :: r)).1 = 2 ∨ (nextE c (c :: r)).1 = 3 ∨ ((nextE c (c :: r)).1 = 4 ∧ (nextE c (c :: r)).2 = 1)) ∧ 1 ≤ (nextE c (c :: r)).2 ∧ (nextE c (c :: r)).2 ≤ (c :: r).length) := by
  have hlen : 1 ≤ (c :: r).length := by simp
  have h1 := comLen_le (c :: r)
  have h2 := wordLen_le (c :: r)
  have h3 := numLen_le (c :: r)
  have h4 := symLen_le (c := c) (l := r)
  unfold nextE
  split
  · exact Or.inr ⟨Or.inl rfl, Nat.le_refl _, hlen⟩
  · split
    · exact Or.inr ⟨Or.inr (Or.inr (Or.inr (Or.inr ⟨rfl, rfl⟩))), Nat.le_refl _, hlen⟩
    · split
      · rename_i h
        have : c = 35 := (byte_test c 35 (by decide)).2 h
        exact Or.inr ⟨Or.inl rfl, by rw [this]; simp [comLen], h1⟩
      · split
        · rename_i hl
          split
          · exact Or.inr ⟨Or.inr (Or.inl rfl), wordLen_pos hl, h2⟩
          · exact Or.inl ⟨rfl, h2⟩
        · split
          · rename_i hd
            exact Or.inr ⟨Or.inr (Or.inr (Or.inl rfl)), numLen_pos hd, h3⟩
          · split
            · exact Or.inl ⟨rfl, hlen⟩
            · exact Or.inr ⟨Or.inr (Or.inr (Or.inr (Or.inl rfl))), by omega, h4⟩
structure RefSt (w : World) (tv : Value) (acc : List TokD) (wr : World) : Prop where
  below : Below w.heap.size w wr
  res : wr.heap[w.heap.size]? = some (.cells #[.int .i64 0, .int .i64 0] 38 (0, 0))
  own : wr.ownsRow (w.heap.size + 1) 51 4 tv acc.length (tokCells acc)
section
variable {w : World} {tv : Value} {acc : List TokD} {wr : World}
theorem RefSt.size (h : RefSt w tv acc wr) : w.heap.size + 1 ≤ wr.heap.size := by
  rcases Nat.lt_or_ge w.heap.size wr.heap.size with h1 | h1
  · omega
  · have := h.res; rw [Array.getElem?_eq_none h1] at this; cases this
theorem RefSt.to (h : RefSt w tv acc wr) {z : World} (hb : Below wr.heap.size wr z) : RefSt w tv acc z :=
  ⟨h.below.trans (hb.mono (by have := h.size; omega)), (hb.block _ (by have := h.size; omega)).trans h.res, own_below h.own hb⟩
theorem RefSt.append {v' : Value} {z w' u : World} {t : TokD} (h : RefSt w tv acc z) (hu : Below z.heap.size z u)
    (hown : w'.ownsRow (w.heap.size + 1) 51 4 v' (acc.length + 1) (tokCells acc ++ TokD.cells t)) (hgr : u.grownBy w' tv.ownBlock) : RefSt w v' (acc ++ [t]) w' := by
  have hs := h.size
  have hb : Below (w.heap.size + 1) z w' := Below.grown (hu.mono (by omega)) hgr (by have := hu.size; omega) (own_owner h.own)
  refine ⟨h.below.trans (hb.mono (by omega)), (hb.block _ (by omega)).trans h.res, ?_⟩
  rw [tokCells_append, tokCells_one, List.length_append]
  exact hown
theorem RefSt.rcell0 (h : RefSt w tv acc wr) : wr.cell? ⟨w.heap.size, 0, none⟩ = some (.int .i64 0) := (two_cells h.res).1
theorem RefSt.rcell1 (h : RefSt w tv acc wr) : wr.cell? ⟨w.heap.size, 1, none⟩ = some (.int .i64 0) := (two_cells h.res).2
theorem RefSt.rfree (h : RefSt w tv acc wr) (i : Nat) : wr.frozen? ⟨w.heap.size, i, none⟩ = false := block_unfrozen h.res i
end
theorem RefSt.start (w : World) : RefSt w (.slice none 0 0) [] (w.alloc (.cells #[.int .i64 0, .int .i64 0] 38)) :=
  ⟨(Below.refl _ _).alloc (Nat.le_refl _) _, heap_alloc_new w _, own_nil _ _ _ _⟩
theorem drop_drop_bs {s : ByteArray} {i n : Nat} : ((bs s).drop i).drop n = (bs s).drop (i + n) := by rw [List.drop_drop]
theorem take_drop_bs {s : ByteArray} {i n : Nat} : (⟨(((bs s).drop i).take n).toArray⟩ : ByteArray) = s.extract i (i + n) := by
  rw [Lib.extract_eq, bs_data, show i + n - i = n by omega]
set_option maxHeartbeats 16000000 in
set_option maxRecDepth 100000 in
theorem refTokens_any (s : ByteArray) (hs : s.size ≤ 262144) (w : World) : Calls Tryd.prog 23 #[.string s] w (TokPost w (toks (bs s))) := by
  obtain ⟨i8, hi8, hz8, hs8, hb8⟩ := info_parts infoToken
  have HI := hide (And.intro hi8 (And.intro hz8 (And.intro hs8 hb8)))
  clear hi8 hz8 hs8 hb8
  go_enter Tryd.func23, Tryd.ntmps23
  go_wp2
  go_loopw [5, 6, 7, 8] (fun tv lv sv iv wr => ∃ (acc : List TokD) (line : Int) (start i : Nat), lv = .int .i64 line ∧ sv = .int .i64 start ∧ iv = .int .i64 i ∧ i ≤ s.size ∧ start ≤ i ∧ Hid (ToksTo (toks (bs s)) acc ((bs s).drop i) line ((i : Int) - start + 1)) ∧ acc.length ≤ i ∧ 1 ≤ line ∧ line ≤ (i : Int) + 1 ∧ Hid (RefSt w tv acc wr)) (fun _ _ _ iv _ => s.size - (intOf iv).toNat)
  case atStart => exact ⟨[], 1, 0, 0, rfl, rfl, rfl, Nat.zero_le _, Nat.le_refl _, hide (ToksTo.start _), by simp, by omega, by omega, hide (RefSt.start w)⟩
  case round =>
    obtain ⟨acc, line, start, i, rfl, rfl, rfl, hi, hsi, hf, hacc, hl1, hl2, hst⟩ := hrel
    have hwz := hst.out.size
    by_cases hlt : i < s.size
    · have hdr := dropAt hlt
      have hL := hide (show 0 < ((bs s).drop i).length by rw [hdr]; simp)
      have hK := nextTk_E s[i] ((bs s).drop (i + 1))
      have hC := nextE_cases s[i] ((bs s).drop (i + 1))
      rw [← hdr, List.length_drop, bs_length] at hC
      rw [← hdr] at hK
      have KN := hide (Gives.first (refNext_any s i hlt (by omega) wr))
      clear hdr
      generalize nextE s[i] ((bs s).drop i) = kn at *
      obtain ⟨kd, n⟩ := kn
      simp only at hC hK KN
      have HK := hide hK
      clear hK
      rcases hC with ⟨rfl, hn⟩ | ⟨hkd, hn1, hn2⟩
      · have HR := hide (hf.out.bad hL.out (HK.out.trans rfl))
        go_wp2_with fail
        refine KN.out.mono ?_
        rintro e w1 ⟨rfl, y1, rfl⟩
        have HZ := hide (hst.out.to y1.below)
        obtain ⟨W, hW⟩ : ∃ W, W = y1.val.alloc (.cells #[.int .i64 line, .int .i64 ((i : Int) - start + 1)] 38) := ⟨_, rfl⟩
        have hbW : Below y1.val.heap.size y1.val W := by rw [hW]; exact (Below.refl _ _).alloc (Nat.le_refl _) _
        have hWh : W.heap[y1.val.heap.size]? = some (.cells #[.int .i64 line, .int .i64 ((i : Int) - start + 1)] 38 (0, 0)) := by rw [hW]; exact heap_alloc_new _ _
        have hlW : y1.val.heap.size < W.heap.size := by rw [hW]; simp
        have HZW := hide (HZ.out.to hbW)
        have q0 := fun z : After W.heap.size W => (two_cells ((z.below.block _ hlW).trans hWh)).1
        have q1 := fun z : After W.heap.size W => (two_cells ((z.below.block _ hlW).trans hWh)).2
        have r0 := fun z : After W.heap.size W => (HZW.out.to z.below).rcell0
        have r1 := fun z : After W.heap.size W => (HZW.out.to z.below).rcell1
        have f0 := fun z : After W.heap.size W => (HZW.out.to z.below).rfree 0
        have f1 := fun z : After W.heap.size W => (HZW.out.to z.below).rfree 1
        have HW := hide hW
        clear hW hbW hWh
        go_wp2
        rw [← HW.out]
        refine wp_tail_first W.heap.size 2 (by kernel_rfl) (by kernel_rfl) ?_
        simp only [List.take_succ_cons, List.take_zero, List.drop_succ_cons, List.drop_zero]
        repeat (go_big_quiet_step (fail))
        refine wpQuiet_nil ?_
        intro z
        go_wp2
        obtain ⟨c0, c1⟩ := two_cells (two_set (c := .int .i64 line) (d := .int .i64 ((i : Int) - start + 1)) (HZW.out.to z.below).res)
        refine bodyPost_ret (v := .tuple #[.slice none 0 0, .agg #[.int .i64 line, .int .i64 ((i : Int) - start + 1)], .int .i64 7]) (by simp [results, Tryd.results23, go_sem, c0, c1]) rfl ?_
        rw [HR.out]
        exact ⟨((HZW.out.to z.below).below.setCell (Nat.le_refl _) _).setCell (Nat.le_refl _) _, rfl⟩
      · have HC := hide (show i + n ≤ s.size by omega)
        have HD := hide (drop_drop_bs (s := s) (i := i) (n := n))
        have HTK := hide (take_drop_bs (s := s) (i := i) (n := n))
        rcases hkd with rfl | hkd | hkd | hkd | ⟨rfl, rfl⟩
        · have HT := hide (hf.out.blank hL.out (HK.out.trans rfl) hn1)
          rw [HD.out, show (i : Int) - start + 1 + n = ((i + n : Nat) : Int) - start + 1 by omega] at HT
          go_wp2_with fail
          refine KN.out.mono ?_
          rintro e w1 ⟨rfl, y1, rfl⟩
          have HZ := hide (hst.out.to y1.below)
          obtain ⟨W, hW⟩ : ∃ W, W = y1.val.alloc (.cells #[.int .i64 line, .int .i64 ((i : Int) - start + 1)] 38) := ⟨_, rfl⟩
          have hbW : Below y1.val.heap.size y1.val W := by rw [hW]; exact (Below.refl _ _).alloc (Nat.le_refl _) _
          have hWh : W.heap[y1.val.heap.size]? = some (.cells #[.int .i64 line, .int .i64 ((i : Int) - start + 1)] 38 (0, 0)) := by rw [hW]; exact heap_alloc_new _ _
          have hlW : y1.val.heap.size < W.heap.size := by rw [hW]; simp
          have hzW : w.heap.size + 1 ≤ W.heap.size := by have := y1.size; omega
          have HZW := hide (HZ.out.to hbW)
          have q0 : W.cell? ⟨y1.val.heap.size, 0, none⟩ = some (.int .i64 line) := (two_cells hWh).1
          have q1 : W.cell? ⟨y1.val.heap.size, 1, none⟩ = some (.int .i64 ((i : Int) - start + 1)) := (two_cells hWh).2
          have HW := hide hW
          clear hW hbW hWh
          go_upto_region 9 with fail
          rw [← HW.out]
          go_wp2
          exact ⟨⟨acc, line, start, i + n, rfl, rfl, by go_num, by omega, by omega, HT, by omega, hl1, by omega, HZW⟩, by simp [intOf]; omega⟩
        · subst hkd
          have b0 : 0 ≤ (i : Int) + (n : Int) := by omega
          have b1 : (i : Int) + (n : Int) ≤ (s.size : Int) := by omega
          have b2 : (i : Int) ≤ (i : Int) + (n : Int) := by omega
          have b3 : ((i : Int) + (n : Int)).toNat = i + n := by omega
          have HT := hide (hf.out.tok hL.out (HK.out.trans rfl) hn1)
          rw [HD.out, HTK.out, show (i : Int) - start + 1 + n = ((i + n : Nat) : Int) - start + 1 by omega] at HT
          go_wp2_with fail
          refine KN.out.mono ?_
          rintro e w1 ⟨rfl, y1, rfl⟩
          have HZ := hide (hst.out.to y1.below)
          obtain ⟨W, hW⟩ : ∃ W, W = y1.val.alloc (.cells #[.int .i64 line, .int .i64 ((i : Int) - start + 1)] 38) := ⟨_, rfl⟩
          have hbW : Below y1.val.heap.size y1.val W := by rw [hW]; exact (Below.refl _ _).alloc (Nat.le_refl _) _
          have hWh : W.heap[y1.val.heap.size]? = some (.cells #[.int .i64 line, .int .i64 ((i : Int) - start + 1)] 38 (0, 0)) := by rw [hW]; exact heap_alloc_new _ _
          have hlW : y1.val.heap.size < W.heap.size := by rw [hW]; simp
          have hzW : w.heap.size + 1 ≤ W.heap.size := by have := y1.size; omega
          have HZW := hide (HZ.out.to hbW)
          have q0 : W.cell? ⟨y1.val.heap.size, 0, none⟩ = some (.int .i64 line) := (two_cells hWh).1
          have q1 : W.cell? ⟨y1.val.heap.size, 1, none⟩ = some (.int .i64 ((i : Int) - start + 1)) := (two_cells hWh).2
          have HW := hide hW
          clear hW hbW hWh
          go_upto_region 9 with fail
          rw [← HW.out]
          go_wp2
          go_region_law ((refine step_append_lies _ (by rfl) (.tmp 48) (.tmp 56) 36 (by rfl) (w.heap.size + 1) 51 i8 (.agg #[.int .i64 0, .string ⟨#[]⟩, .int .i64 0, .int .i64 0]) 4 40 Tryd.underlying36 HI.out.1 HI.out.2.1 HI.out.2.2.1 HI.out.2.2.2 rfl (by omega) u5 acc.length (tokCells acc) (by go_simp) (HZW.out.own.alloc _) ⟨W.heap.size, 0, none⟩ 1 1 (TokD.cells ⟨1, s.extract i (i + n), line, (i : Int) - start + 1⟩) (by go_simp) rfl (World.news_of_block (heap_alloc_new W _)) (fun u hu => by simp [TokD.cells] at hu; rcases hu with rfl | rfl | rfl | rfl <;> rfl) (by omega) (by unfold maxLen; omega) (by omega) (by simp; omega) (W.heap.size + 1) (by simp) ?_; intro g cap4 w4 hown4 hgr hg hlt4))
          have HN := hide (RefSt.append HZW.out (((Below.refl _ _).alloc (Nat.le_refl _) _).drew) hown4 hgr)
          clear hgr hg hown4
          go_simp
          go_wp2
          exact ⟨⟨_, line, start, i + n, rfl, rfl, by go_num, by omega, by omega, HT, by rw [List.length_append, List.length_singleton]; omega, hl1, by omega, HN⟩, by simp [intOf]; omega⟩
        · subst hkd
          have b0 : 0 ≤ (i : Int) + (n : Int) := by omega
          have b1 : (i : Int) + (n : Int) ≤ (s.size : Int) := by omega
          have b2 : (i : Int) ≤ (i : Int) + (n : Int) := by omega
          have b3 : ((i : Int) + (n : Int)).toNat = i + n := by omega
          have HT := hide (hf.out.tok hL.out (HK.out.trans rfl) hn1)
          rw [HD.out, HTK.out, show (i : Int) - start + 1 + n = ((i + n : Nat) : Int) - start + 1 by omega] at HT
          go_wp2_with fail
          refine KN.out.mono ?_
          rintro e w1 ⟨rfl, y1, rfl⟩
          have HZ := hide (hst.out.to y1.below)
          obtain ⟨W, hW⟩ : ∃ W, W = y1.val.alloc (.cells #[.int .i64 line, .int .i64 ((i : Int) - start + 1)] 38) := ⟨_, rfl⟩
          have hbW : Below y1.val.heap.size y1.val W := by rw [hW]; exact (Below.refl _ _).alloc (Nat.le_refl _) _
          have hWh : W.heap[y1.val.heap.size]? = some (.cells #[.int .i64 line, .int .i64 ((i : Int) - start + 1)] 38 (0, 0)) := by rw [hW]; exact heap_alloc_new _ _
          have hlW : y1.val.heap.size < W.heap.size := by rw [hW]; simp
          have hzW : w.heap.size + 1 ≤ W.heap.size := by have := y1.size; omega
          have HZW := hide (HZ.out.to hbW)
          have q0 : W.cell? ⟨y1.val.heap.size, 0, none⟩ = some (.int .i64 line) := (two_cells hWh).1
          have q1 : W.cell? ⟨y1.val.heap.size, 1, none⟩ = some (.int .i64 ((i : Int) - start + 1)) := (two_cells hWh).2
          have HW := hide hW
          clear hW hbW hWh
          go_upto_region 9 with fail
          rw [← HW.out]
          go_wp2
          go_region_law ((refine step_append_lies _ (by rfl) (.tmp 48) (.tmp 56) 36 (by rfl) (w.heap.size + 1) 51 i8 (.agg #[.int .i64 0, .string ⟨#[]⟩, .int .i64 0, .int .i64 0]) 4 40 Tryd.underlying36 HI.out.1 HI.out.2.1 HI.out.2.2.1 HI.out.2.2.2 rfl (by omega) u5 acc.length (tokCells acc) (by go_simp) (HZW.out.own.alloc _) ⟨W.heap.size, 0, none⟩ 1 1 (TokD.cells ⟨2, s.extract i (i + n), line, (i : Int) - start + 1⟩) (by go_simp) rfl (World.news_of_block (heap_alloc_new W _)) (fun u hu => by simp [TokD.cells] at hu; rcases hu with rfl | rfl | rfl | rfl <;> rfl) (by omega) (by unfold maxLen; omega) (by omega) (by simp; omega) (W.heap.size + 1) (by simp) ?_; intro g cap4 w4 hown4 hgr hg hlt4))
          have HN := hide (RefSt.append HZW.out (((Below.refl _ _).alloc (Nat.le_refl _) _).drew) hown4 hgr)
          clear hgr hg hown4
          go_simp
          go_wp2
          exact ⟨⟨_, line, start, i + n, rfl, rfl, by go_num, by omega, by omega, HT, by rw [List.length_append, List.length_singleton]; omega, hl1, by omega, HN⟩, by simp [intOf]; omega⟩
        · subst hkd
          have b0 : 0 ≤ (i : Int) + (n : Int) := by omega
          have b1 : (i : Int) + (n : Int) ≤ (s.size : Int) := by omega
          have b2 : (i : Int) ≤ (i : Int) + (n : Int) := by omega
          have b3 : ((i : Int) + (n : Int)).toNat = i + n := by omega
          have HT := hide (hf.out.tok hL.out (HK.out.trans rfl) hn1)
          rw [HD.out, HTK.out, show (i : Int) - start + 1 + n = ((i + n : Nat) : Int) - start + 1 by omega] at HT
          go_wp2_with fail
          refine KN.out.mono ?_
          rintro e w1 ⟨rfl, y1, rfl⟩
          have HZ := hide (hst.out.to y1.below)
          obtain ⟨W, hW⟩ : ∃ W, W = y1.val.alloc (.cells #[.int .i64 line, .int .i64 ((i : Int) - start + 1)] 38) := ⟨_, rfl⟩
          have hbW : Below y1.val.heap.size y1.val W := by rw [hW]; exact (Below.refl _ _).alloc (Nat.le_refl _) _
          have hWh : W.heap[y1.val.heap.size]? = some (.cells #[.int .i64 line, .int .i64 ((i : Int) - start + 1)] 38 (0, 0)) := by rw [hW]; exact heap_alloc_new _ _
          have hlW : y1.val.heap.size < W.heap.size := by rw [hW]; simp
          have hzW : w.heap.size + 1 ≤ W.heap.size := by have := y1.size; omega
          have HZW := hide (HZ.out.to hbW)
          have q0 : W.cell? ⟨y1.val.heap.size, 0, none⟩ = some (.int .i64 line) := (two_cells hWh).1
          have q1 : W.cell? ⟨y1.val.heap.size, 1, none⟩ = some (.int .i64 ((i : Int) - start + 1)) := (two_cells hWh).2
          have HW := hide hW
          clear hW hbW hWh
          go_upto_region 9 with fail
          rw [← HW.out]
          go_wp2
          go_region_law ((refine step_append_lies _ (by rfl) (.tmp 48) (.tmp 56) 36 (by rfl) (w.heap.size + 1) 51 i8 (.agg #[.int .i64 0, .string ⟨#[]⟩, .int .i64 0, .int .i64 0]) 4 40 Tryd.underlying36 HI.out.1 HI.out.2.1 HI.out.2.2.1 HI.out.2.2.2 rfl (by omega) u5 acc.length (tokCells acc) (by go_simp) (HZW.out.own.alloc _) ⟨W.heap.size, 0, none⟩ 1 1 (TokD.cells ⟨3, s.extract i (i + n), line, (i : Int) - start + 1⟩) (by go_simp) rfl (World.news_of_block (heap_alloc_new W _)) (fun u hu => by simp [TokD.cells] at hu; rcases hu with rfl | rfl | rfl | rfl <;> rfl) (by omega) (by unfold maxLen; omega) (by omega) (by simp; omega) (W.heap.size + 1) (by simp) ?_; intro g cap4 w4 hown4 hgr hg hlt4))
          have HN := hide (RefSt.append HZW.out (((Below.refl _ _).alloc (Nat.le_refl _) _).drew) hown4 hgr)
          clear hgr hg hown4
          go_simp
          go_wp2
          exact ⟨⟨_, line, start, i + n, rfl, rfl, by go_num, by omega, by omega, HT, by rw [List.length_append, List.length_singleton]; omega, hl1, by omega, HN⟩, by simp [intOf]; omega⟩
        · have HT := hide (show ToksTo (toks (bs s)) (acc ++ [⟨4, ⟨#[]⟩, line, (i : Int) - start + 1⟩]) ((bs s).drop (i + 1)) (line + 1) (((i + 1 : Nat) : Int) - ((i + 1 : Nat) : Int) + 1) from by
            have h := hf.out.lineEnd hL.out (HK.out.trans rfl)
            rw [HD.out] at h
            have e : ((i + 1 : Nat) : Int) - ((i + 1 : Nat) : Int) + 1 = 1 := by omega
            rw [e]
            exact h)
          go_wp2_with fail
          refine KN.out.mono ?_
          rintro e w1 ⟨rfl, y1, rfl⟩
          have HZ := hide (hst.out.to y1.below)
          obtain ⟨W, hW⟩ : ∃ W, W = y1.val.alloc (.cells #[.int .i64 line, .int .i64 ((i : Int) - start + 1)] 38) := ⟨_, rfl⟩
          have hbW : Below y1.val.heap.size y1.val W := by rw [hW]; exact (Below.refl _ _).alloc (Nat.le_refl _) _
          have hWh : W.heap[y1.val.heap.size]? = some (.cells #[.int .i64 line, .int .i64 ((i : Int) - start + 1)] 38 (0, 0)) := by rw [hW]; exact heap_alloc_new _ _
          have hlW : y1.val.heap.size < W.heap.size := by rw [hW]; simp
          have hzW : w.heap.size + 1 ≤ W.heap.size := by have := y1.size; omega
          have HZW := hide (HZ.out.to hbW)
          have q0 : W.cell? ⟨y1.val.heap.size, 0, none⟩ = some (.int .i64 line) := (two_cells hWh).1
          have q1 : W.cell? ⟨y1.val.heap.size, 1, none⟩ = some (.int .i64 ((i : Int) - start + 1)) := (two_cells hWh).2
          have HW := hide hW
          clear hW hbW hWh
          go_upto_region 9 with fail
          rw [← HW.out]
          go_wp2_with (at_builtin; refine Hid.out ?_)
          refine Lib.hid ?_
          refine wpList_append_own _ rfl _ _ 36 rfl (w.heap.size + 1) 51 i8 _ 4 40 Tryd.underlying36 HI.out.1 HI.out.2.1 HI.out.2.2.1 HI.out.2.2.2 rfl (by decide) _ _ _ rfl (HZW.out.own.alloc _) ⟨W.heap.size, 0, none⟩ 1 1 (TokD.cells ⟨4, ⟨#[]⟩, line, (i : Int) - start + 1⟩) rfl rfl (World.news_of_block (heap_alloc_new W _)) (fun u hu => by simp [TokD.cells] at hu; rcases hu with rfl | rfl | rfl | rfl <;> rfl) (by unfold maxLen; omega) (by omega) (by simp; omega) ?_
          intro v4 w4 hown hgr _
          have HN := hide (RefSt.append HZW.out ((Below.refl _ _).alloc (Nat.le_refl _) _) hown hgr)
          clear hgr hown
          go_wp2
          exact ⟨⟨_, line + 1, i + 1, i + 1, rfl, by go_num, by go_num, by omega, by omega, HT, by rw [List.length_append, List.length_singleton]; omega, by omega, by omega, HN⟩, by simp [intOf]; omega⟩
    · have ei : i = s.size := by omega
      have hdl : ((bs s).drop i).length = 0 := by rw [List.length_drop, bs_length]; omega
      have HR := hide (hf.out.done hdl)
      rw [ei] at HR
      have HZW := hst
      clear hdl ei
      go_wp2_with (at_builtin; refine Hid.out ?_)
      refine Lib.hid ?_
      refine wpList_append_own _ rfl _ _ 36 rfl (w.heap.size + 1) 51 i8 _ 4 40 Tryd.underlying36 HI.out.1 HI.out.2.1 HI.out.2.2.1 HI.out.2.2.2 rfl (by decide) _ _ _ rfl (HZW.out.own.alloc _) ⟨wr.heap.size, 0, none⟩ 1 1 (TokD.cells ⟨5, ⟨#[]⟩, line, (s.size : Int) - start + 1⟩) rfl rfl (World.news_of_block (heap_alloc_new wr _)) (fun u hu => by simp [TokD.cells] at hu; rcases hu with rfl | rfl | rfl | rfl <;> rfl) (by unfold maxLen; omega) (by omega) (by simp; omega) ?_
      intro v4 w4 hown hgr _
      have HN := hide (RefSt.append HZW.out ((Below.refl _ _).alloc (Nat.le_refl _) _) hown hgr)
      have r0 := HN.out.rcell0
      have r1 := HN.out.rcell1
      have f0 := HN.out.rfree 0
      have f1 := HN.out.rfree 1
      clear hgr hown
      go_wp2
      obtain ⟨c0, c1⟩ := two_cells (two_set (c := .int .i64 0) (d := .int .i64 0) HN.out.res)
      refine bodyPost_ret (v := .tuple #[v4, .agg #[.int .i64 0, .int .i64 0], .int .i64 0]) (by simp [results, Tryd.results23, go_sem, c0, c1]) rfl ?_
      rw [HR.out]
      exact ⟨(HN.out.below.setCell (Nat.le_refl _) _).setCell (Nat.le_refl _) _, v4, rfl, (ownsRow_setCell_below (ownsRow_setCell_below HN.out.own (by show w.heap.size < w.heap.size + 1; omega) _) (by show w.heap.size < w.heap.size + 1; omega) _).2.elim (fun h => ⟨HN.out.own.1, Or.inl h⟩) (fun ⟨g, cap, cur, hv, hg, r⟩ => ⟨HN.out.own.1, Or.inr ⟨g, cap, cur, hv, by omega, r⟩⟩)⟩
end Go.Proofs.YtplblogdgbnbdaaDoor
