/- decimal.Tokens: what it computes. -/
import Derived.Test.YtnjbfhfjdhfdlaaGreatDoorDecSym
import Derived.Deep.DeepCutAuto
import Derived.Test.YtnjbfhfjdhfdlaaGreatDoorOwn
import Derived.Test.YtnjbfhfjdhfdlaaGreatDoorQuietTail

namespace Go.Proofs.YtnjbfhfjdhfdlaaGreatDoor
open Go.RowKit

def TokD.cells (t : TokD) : List Value := [.int .i64 t.kind, .string t.text, .int .i64 t.line, .int .i64 t.col]
def tokCells (l : List TokD) : List Value := l.flatMap TokD.cells
theorem tokCells_append (a b : List TokD) : tokCells (a ++ b) = tokCells a ++ tokCells b := by simp [tokCells]
theorem tokCells_one (t : TokD) : tokCells [t] = TokD.cells t := by simp [tokCells]
/-- what Tokens leaves -/
def TokPost (w : World) : TRes → Ending → World → Prop
  | .good l, e, w' => Below w.heap.size w w' ∧ ∃ v, e = .returned (.tuple #[v, .agg #[.int .i64 0, .int .i64 0], .int .i64 0]) ∧ w'.ownsRow w.heap.size 135 4 v l.length (tokCells l)
  | .bad a b, e, w' => Below w.heap.size w w' ∧ e = .returned (.tuple #[.slice none 0 0, .agg #[.int .i64 a, .int .i64 b], .int .i64 7])
theorem infoToken : (Tryz.prog.info? 135).map (fun i => (i.zero, i.size, i.bytes)) = some (some (.agg #[.int .i64 0, .string ⟨#[]⟩, .int .i64 0, .int .i64 0]), 4, 40) := by kernel_rfl
/-- what holds at the head of a round: the place in its block, the result's block, the tokens so far -/
structure TokSt (w : World) (tv : Value) (acc : List TokD) (line col : Int) (wr : World) : Prop where
  below : Below w.heap.size w wr
  res : wr.heap[w.heap.size]? = some (.cells #[.int .i64 0, .int .i64 0] 40 (0, 0))
  pos : wr.heap[w.heap.size + 1]? = some (.cells #[.int .i64 line, .int .i64 col] 40 (0, 0))
  own : wr.ownsRow (w.heap.size + 2) 135 4 tv acc.length (tokCells acc)
section
variable {w : World} {tv : Value} {acc : List TokD} {line col : Int} {wr : World}
theorem TokSt.size (h : TokSt w tv acc line col wr) : w.heap.size + 2 ≤ wr.heap.size := by
  rcases Nat.lt_or_ge (w.heap.size + 1) wr.heap.size with h1 | h1
  · omega
  · have := h.pos; rw [Array.getElem?_eq_none h1] at this; cases this
theorem TokSt.after (h : TokSt w tv acc line col wr) (y : After wr.heap.size wr) : TokSt w tv acc line col y.val := by
  have hs := h.size
  exact ⟨h.below.trans (y.below.mono (by omega)), (y.below.block _ (by omega)).trans h.res, (y.below.block _ (by omega)).trans h.pos, own_below h.own y.below⟩
theorem TokSt.setCol (h : TokSt w tv acc line col wr) (n : Int) : TokSt w tv acc line n (wr.setCell ⟨w.heap.size + 1, 1, none⟩ (.int .i64 n)) := by
  refine ⟨h.below.setCell (by show w.heap.size ≤ w.heap.size + 1; omega) _, (Below.heap_setCell _ _ _ _ (by show w.heap.size ≠ w.heap.size + 1; omega)).trans h.res, ?_, ?_⟩
  · rw [block_set h.pos]; rfl
  · exact ownsRow_setCell_below h.own (by show w.heap.size + 1 < w.heap.size + 2; omega) _
end
theorem TokSt.append {w : World} {tv v' : Value} {acc : List TokD} {line col : Int} {z w' u : World} {t : TokD} (h : TokSt w tv acc line col z) (hu : Below z.heap.size z u)
    (hown : w'.ownsRow (w.heap.size + 2) 135 4 v' (acc.length + 1) (tokCells acc ++ TokD.cells t)) (hgr : u.grownBy w' tv.ownBlock) : TokSt w v' (acc ++ [t]) line col w' := by
  have hs := h.size
  have hb : Below (w.heap.size + 2) z w' := Below.grown (hu.mono (by omega)) hgr (by have := hu.size; omega) (own_owner h.own)
  refine ⟨h.below.trans (hb.mono (by omega)), (hb.block _ (by omega)).trans h.res, (hb.block _ (by omega)).trans h.pos, ?_⟩
  rw [tokCells_append, tokCells_one, List.length_append]
  exact hown
theorem TokSt.cell0 {w : World} {tv : Value} {acc : List TokD} {line col : Int} {z : World} (h : TokSt w tv acc line col z) : z.cell? ⟨w.heap.size + 1, 0, none⟩ = some (.int .i64 line) := (cell_of_row z (w.heap.size + 1) 0 _ _ _ h.pos).trans rfl
theorem TokSt.cell1 {w : World} {tv : Value} {acc : List TokD} {line col : Int} {z : World} (h : TokSt w tv acc line col z) : z.cell? ⟨w.heap.size + 1, 1, none⟩ = some (.int .i64 col) := (cell_of_row z (w.heap.size + 1) 1 _ _ _ h.pos).trans rfl
theorem TokSt.free {w : World} {tv : Value} {acc : List TokD} {line col : Int} {z : World} (h : TokSt w tv acc line col z) (i : Nat) : z.frozen? ⟨w.heap.size + 1, i, none⟩ = false := block_unfrozen h.pos i
theorem TokSt.rcell0 {w : World} {tv : Value} {acc : List TokD} {line col : Int} {z : World} (h : TokSt w tv acc line col z) : z.cell? ⟨w.heap.size, 0, none⟩ = some (.int .i64 0) := (cell_of_row z (w.heap.size) 0 _ _ _ h.res).trans rfl
theorem TokSt.rcell1 {w : World} {tv : Value} {acc : List TokD} {line col : Int} {z : World} (h : TokSt w tv acc line col z) : z.cell? ⟨w.heap.size, 1, none⟩ = some (.int .i64 0) := (cell_of_row z (w.heap.size) 1 _ _ _ h.res).trans rfl
theorem TokSt.rfree {w : World} {tv : Value} {acc : List TokD} {line col : Int} {z : World} (h : TokSt w tv acc line col z) (i : Nat) : z.frozen? ⟨w.heap.size, i, none⟩ = false := block_unfrozen h.res i
theorem ext_size (S : ByteArray) (n : Nat) : (S.extract n S.size).size = S.size - n := by rw [ByteArray.size_extract]; omega
theorem TokSt.setPos {w : World} {tv : Value} {acc : List TokD} {line col : Int} {wr : World} (h : TokSt w tv acc line col wr) (a b : Int) : TokSt w tv acc a b ((wr.setCell ⟨w.heap.size + 1, 0, none⟩ (.int .i64 a)).setCell ⟨w.heap.size + 1, 1, none⟩ (.int .i64 b)) := by
  refine ⟨(h.below.setCell (by show w.heap.size ≤ w.heap.size + 1; omega) _).setCell (by show w.heap.size ≤ w.heap.size + 1; omega) _, ?_, two_set h.pos, ?_⟩
  · rw [Below.heap_setCell _ _ _ _ (by show w.heap.size ≠ w.heap.size + 1; omega), Below.heap_setCell _ _ _ _ (by show w.heap.size ≠ w.heap.size + 1; omega)]
    exact h.res
  · exact ownsRow_setCell_below (ownsRow_setCell_below h.own (by show w.heap.size + 1 < w.heap.size + 2; omega) _) (by show w.heap.size + 1 < w.heap.size + 2; omega) _
theorem TokSt.start (w : World) : TokSt w (.slice none 0 0) [] 1 1 ((w.alloc (.cells #[.int .i64 0, .int .i64 0] 40)).alloc (.cells #[.int .i64 1, .int .i64 1] 40)) := by
  refine ⟨((Below.refl _ _).alloc (Nat.le_refl _) _).alloc (by simp) _, ?_, ?_, own_nil _ _ _ _⟩
  · rw [Below.heap_alloc _ _ _ (by simp)]; exact heap_alloc_new w _
  · have := heap_alloc_new (w.alloc (.cells #[.int .i64 0, .int .i64 0] 40)) (.cells #[.int .i64 1, .int .i64 1] 40)
    simpa using this
theorem bs_drop (S : ByteArray) (n : Nat) : bs (S.extract n S.size) = (bs S).drop n := by
  rw [bs_data, bs_data, Lib.extract_data, List.take_of_length_le]
  rw [List.length_drop, ← bs_data, bs_length]
  omega
theorem bs_take (S : ByteArray) (n : Nat) : S.extract 0 n = ⟨((bs S).take n).toArray⟩ := by
  rw [Lib.extract_eq, bs_data]; simp
theorem letter_bounds {c : Int} (h : letterB c = true) : 65 ≤ c ∧ c ≤ 122 := by
  unfold letterB at h
  simp only [Bool.or_eq_true, Bool.and_eq_true, decide_eq_true_eq] at h
  omega
theorem digit_bounds {c : Int} (h : digitB c = true) : 48 ≤ c ∧ c ≤ 57 := by
  unfold digitB at h
  simp only [Bool.and_eq_true, decide_eq_true_eq] at h
  omega
set_option maxHeartbeats 16000000 in
set_option maxRecDepth 100000 in
theorem tokens_any (s : ByteArray) (hs : s.size ≤ 262144) (w : World) : Calls Tryz.prog 81 #[.string s] w (TokPost w (toks (bs s))) := by
  obtain ⟨i8, hi8, hz8, hs8, hb8⟩ := info_parts infoToken
  have HI := hide (And.intro hi8 (And.intro hz8 (And.intro hs8 hb8)))
  clear hi8 hz8 hs8 hb8
  go_enter Tryz.func81, Tryz.ntmps81
  go_wp2
  go_loopw [0, 5] (fun sv tv wr => ∃ (S : ByteArray) (acc : List TokD) (line col : Int), sv = .string S ∧ Hid (ToksTo (toks (bs s)) acc (bs S) line col) ∧ S.size + acc.length ≤ 262144 ∧ 1 ≤ line ∧ line + S.size ≤ 262145 ∧ 1 ≤ col ∧ col + S.size ≤ 262145 ∧ Hid (TokSt w tv acc line col wr)) (fun sv _ _ => (match sv with | .string s => s.size | _ => 0))
  case atStart => exact ⟨s, [], 1, 1, rfl, hide (ToksTo.start _), by simpa using hs, by omega, by omega, by omega, by omega, hide (TokSt.start w)⟩
  case round =>
    obtain ⟨S, acc, line, col, rfl, hf, hSn, hl1, hl2, hc1, hc2, hst⟩ := hrel
    have hq := hst.out
    have hwz := hq.size
    have hc60 := fun y : After wr.heap.size wr => (show y.val.cell? ⟨w.heap.size + 1, 0, none⟩ = some (.int .i64 line) from (cell_of_row y.val (w.heap.size + 1) 0 _ _ _ (hq.after y).pos).trans rfl)
    have hc61 := fun y : After wr.heap.size wr => (show y.val.cell? ⟨w.heap.size + 1, 1, none⟩ = some (.int .i64 col) from (cell_of_row y.val (w.heap.size + 1) 1 _ _ _ (hq.after y).pos).trans rfl)
    have hf60 := fun y : After wr.heap.size wr => block_unfrozen (hq.after y).pos 0
    have hf61 := fun y : After wr.heap.size wr => block_unfrozen (hq.after y).pos 1
    have HST := hide fun y : After wr.heap.size wr => hst.out.after y
    clear hq
    rcases Nat.eq_zero_or_pos S.size with h0 | h0
    · have hn : S.toList = [] := toList_nil h0
      have HR := hide (hf.out.done (by rw [bs_length]; exact h0))
      have hSn' : acc.length ≤ 262144 := by omega
      clear h0 hSn hf hl2 hc2
      have YR : wr = (After.refl wr.heap.size wr).val := rfl
      have HZ := hide (HST.out (After.refl wr.heap.size wr))
      go_wp2_with (at_builtin; refine Hid.out ?_)
      refine Lib.hid ?_
      refine wpList_append_own _ rfl _ _ 98 rfl (w.heap.size + 2) 135 i8 _ 4 40 Tryz.underlying98 HI.out.1 HI.out.2.1 HI.out.2.2.1 HI.out.2.2.2 rfl (by decide) _ _ _ rfl (HZ.out.own.alloc _) ⟨wr.heap.size, 0, none⟩ 1 1 (TokD.cells ⟨5, ⟨#[]⟩, line, col⟩) rfl rfl (World.news_of_block (heap_alloc_new wr _)) (fun u hu => by simp [TokD.cells] at hu; rcases hu with rfl | rfl | rfl | rfl <;> rfl) (by unfold maxLen; omega) (by omega) (by have := HZ.out.size; simp; omega) ?_
      intro v4 w4 hown hgr _
      have HN := hide (TokSt.append HZ.out ((Below.refl _ _).alloc (Nat.le_refl _) _) hown hgr)
      have r0 := HN.out.rcell0
      have r1 := HN.out.rcell1
      have f0 := HN.out.rfree 0
      have f1 := HN.out.rfree 1
      clear hgr hown
      go_wp2
      obtain ⟨c0, c1⟩ := two_cells (two_set (c := .int .i64 0) (d := .int .i64 0) HN.out.res)
      refine bodyPost_ret (v := .tuple #[v4, .agg #[.int .i64 0, .int .i64 0], .int .i64 0]) (by simp [results, Tryz.results81, go_sem, c0, c1]) rfl ?_
      rw [HR.out]
      exact ⟨(HN.out.below.setCell (Nat.le_refl _) _).setCell (Nat.le_refl _) _, v4, rfl, (ownsRow_setCell_below (ownsRow_setCell_below HN.out.own (by show w.heap.size < w.heap.size + 2; omega) _) (by show w.heap.size < w.heap.size + 2; omega) _).2.elim (fun h => ⟨HN.out.own.1, Or.inl h⟩) (fun ⟨g, cap, cur, hv, hg, r⟩ => ⟨HN.out.own.1, Or.inr ⟨g, cap, cur, hv, by omega, r⟩⟩)⟩
    · have hn := toList_isEmpty h0
      have hn' := toList_ne h0
      have HL := hide (show 0 < (bs S).length by rw [bs_length]; exact h0)
      have HK := hide (nextTk_at h0)
      have HS1 := hide fun (n : Nat) => bs_drop S n
      have HS2 := hide fun (n : Nat) => bs_take S n
      rcases bool_or (letterB (S[0].toNat : Int)) with hl | hl
      · rcases bool_or (digitB (S[0].toNat : Int)) with hd | hd
        · cases h32 : ((S[0].toNat : Int) == 32)
          · cases h9 : ((S[0].toNat : Int) == 9)
            · cases h10 : ((S[0].toNat : Int) == 10)
              · cases h35 : ((S[0].toNat : Int) == 35)
                · have HK2 : Hid (nextTk (bs S) = if symLen (bs S) = 0 then .bad else .tok 3 (symLen (bs S))) := hide (by rw [HK.out, h32, h9, h10, h35, hl, hd]; rfl)
                  have KL := hide (hl ▸ letter_any (S[0].toNat : Int) wr)
                  have KD := hide fun y : After wr.heap.size wr => Gives.after (x := y) (Nat.le_refl _) (hd ▸ digit_any (S[0].toNat : Int) y.val)
                  have hwl : symLen (bs S) ≤ S.size := by
                    obtain ⟨l, hbl⟩ := bs_cons h0
                    have := symLen_le (c := S[0]) (l := l); rw [← hbl, bs_length] at this; exact this
                  have KWD := hide fun y : After wr.heap.size wr => Gives.after (x := y) (Nat.le_refl _) (symbol_any S h0 y.val)
                  clear hl hd HK
                  generalize symLen (bs S) = n at *
                  by_cases hn0 : n = 0
                  · subst hn0
                    have HR := hide (hf.out.bad HL.out (by rw [HK2.out, if_pos rfl]))
                    go_wp2_with fail
                    refine (Gives.first KL.out).mono ?_
                    rintro e w1 ⟨rfl, y1, rfl⟩
                    go_wp2_with fail
                    refine (KD.out y1).mono ?_
                    rintro e w1 ⟨rfl, y2, rfl⟩
                    go_wp2_with fail
                    refine (KWD.out y2).mono ?_
                    rintro e w1 ⟨rfl, y3, rfl⟩
                    have HZ := hide (HST.out y3)
                    have r0 := fun z : After y3.val.heap.size y3.val => (HZ.out.after z).rcell0
                    have r1 := fun z : After y3.val.heap.size y3.val => (HZ.out.after z).rcell1
                    have f0 := fun z : After y3.val.heap.size y3.val => (HZ.out.after z).rfree 0
                    have f1 := fun z : After y3.val.heap.size y3.val => (HZ.out.after z).rfree 1
                    have q0 := fun z : After y3.val.heap.size y3.val => (HZ.out.after z).cell0
                    have q1 := fun z : After y3.val.heap.size y3.val => (HZ.out.after z).cell1
                    go_wp2
                    refine wp_tail_first y3.val.heap.size 2 (by kernel_rfl) (by kernel_rfl) ?_
                    simp only [List.take_succ_cons, List.take_zero, List.drop_succ_cons, List.drop_zero]
                    repeat (go_big_quiet_step (fail))
                    refine wpQuiet_nil ?_
                    intro z
                    go_wp2
                    obtain ⟨c0, c1⟩ := two_cells (two_set (c := .int .i64 line) (d := .int .i64 col) (HZ.out.after z).res)
                    refine bodyPost_ret (v := .tuple #[.slice none 0 0, .agg #[.int .i64 line, .int .i64 col], .int .i64 7]) (by simp [results, Tryz.results81, go_sem, c0, c1]) rfl ?_
                    rw [HR.out]
                    exact ⟨((HZ.out.after z).below.setCell (Nat.le_refl _) _).setCell (Nat.le_refl _) _, rfl⟩
                  · have HT := hide (hf.out.tok HL.out (by rw [HK2.out, if_neg hn0]) (by omega))
                    rw [← HS1.out, ← HS2.out] at HT
                    go_wp2_with fail
                    refine (Gives.first KL.out).mono ?_
                    rintro e w1 ⟨rfl, y1, rfl⟩
                    go_wp2_with fail
                    refine (KD.out y1).mono ?_
                    rintro e w1 ⟨rfl, y2, rfl⟩
                    go_wp2_with fail
                    refine (KWD.out y2).mono ?_
                    rintro e w1 ⟨rfl, y3, rfl⟩
                    go_wp2
                    have HZ := hide (HST.out y3)
                    go_region_law ((refine step_append_lies _ (by rfl) (.tmp 69) (.tmp 76) 98 (by rfl) (w.heap.size + 2) 135 i8 (.agg #[.int .i64 0, .string ⟨#[]⟩, .int .i64 0, .int .i64 0]) 4 40 Tryz.underlying98 HI.out.1 HI.out.2.1 HI.out.2.2.1 HI.out.2.2.2 rfl (by omega) u5 acc.length (tokCells acc) (by go_simp) (HZ.out.own.alloc _) ⟨y3.val.heap.size, 0, none⟩ 1 1 (TokD.cells ⟨3, S.extract 0 n, line, col⟩) (by go_simp) rfl (World.news_of_block (heap_alloc_new y3.val _)) (fun u hu => by simp [TokD.cells] at hu; rcases hu with rfl | rfl | rfl | rfl <;> rfl) (by omega) (by unfold maxLen; omega) (by omega) (by have := HZ.out.size; simp; omega) (y3.val.heap.size + 1) (by simp) ?_; intro g cap4 w4 hown4 hgr hg hlt4))
                    have HN := hide (TokSt.append HZ.out (((Below.refl _ _).alloc (Nat.le_refl _) _).drew) hown4 hgr)
                    have c61 := HN.out.cell1
                    have f61 := HN.out.free 1
                    have HSZ := hide (ext_size S n)
                    clear hgr hg hown4
                    go_simp
                    go_wp2
                    exact ⟨⟨S.extract n S.size, _, line, col + n, rfl, HT, by rw [HSZ.out, List.length_append, List.length_singleton]; omega, hl1, by rw [HSZ.out]; omega, by omega, by rw [HSZ.out]; omega, hide (TokSt.setCol HN.out _)⟩, by have := HSZ.out; simp [HSZ.out]; omega⟩
                · skip
                  have hcl := comLen_le (bs S)
                  rw [bs_length] at hcl
                  have hcx := comLen_index (bs S)
                  rw [bs_length] at hcx
                  obtain ⟨ix, hix⟩ : ∃ ix : Int, ix = Lib.indexByte (bs S) 10 := ⟨_, rfl⟩
                  rw [← hix] at hcx
                  have KX := hide (by have := Gives.first (indexByte_any S 10 wr); rw [← bs_data, show (10 : Int).toNat.toUInt8 = 10 from rfl, ← hix] at this; exact this)
                  have hc0 : 1 ≤ comLen (bs S) := by
                    obtain ⟨l, hbl⟩ := bs_cons h0
                    have : S[0] = 35 := (byte_test S[0] 35 (by decide)).2 h35
                    rw [hbl, this]; simp [comLen]
                  have HT := hide (hf.out.blank HL.out (by rw [HK.out, h32, h9, h10, h35]; rfl) hc0)
                  rw [← HS1.out] at HT
                  clear hl hd HK hix
                  generalize comLen (bs S) = n at *
                  by_cases hn2 : n < S.size
                  · rw [if_pos hn2] at hcx
                    subst hcx
                    go_wp2_with fail
                    refine KX.out.mono ?_
                    rintro e w1 ⟨rfl, y1, rfl⟩
                    have HSZ := hide (ext_size S n)
                    have HZ := hide (HST.out y1)
                    go_wp2
                    exact ⟨⟨S.extract n S.size, acc, line, col + n, rfl, HT, by rw [HSZ.out]; omega, hl1, by rw [HSZ.out]; omega, by omega, by rw [HSZ.out]; omega, hide (TokSt.setCol HZ.out _)⟩, by have := HSZ.out; simp [HSZ.out]; omega⟩
                  · rw [if_neg hn2] at hcx
                    obtain rfl : n = S.size := by omega
                    subst hcx
                    go_wp2_with fail
                    refine KX.out.mono ?_
                    rintro e w1 ⟨rfl, y1, rfl⟩
                    have hE : S.extract S.size S.size = ByteArray.empty := by simp
                    rw [hE] at HT
                    clear hE
                    have HZ := hide (HST.out y1)
                    go_wp2
                    exact ⟨⟨ByteArray.empty, acc, line, col + S.size, rfl, HT, by simp; omega, hl1, by simp; omega, by omega, by simp; omega, hide (TokSt.setCol HZ.out _)⟩, by simpa using h0⟩
              · skip
                have HT := hide (hf.out.lineEnd HL.out (by rw [HK.out, h32, h9, h10]; rfl))
                rw [← HS1.out] at HT
                have HSZ := hide (ext_size S 1)
                have YR : wr = (After.refl wr.heap.size wr).val := rfl
                have HZ := hide (HST.out (After.refl wr.heap.size wr))
                clear hl hd
                go_wp2_with (at_builtin; refine Hid.out ?_)
                refine Lib.hid ?_
                refine wpList_append_own _ rfl _ _ 98 rfl (w.heap.size + 2) 135 i8 _ 4 40 Tryz.underlying98 HI.out.1 HI.out.2.1 HI.out.2.2.1 HI.out.2.2.2 rfl (by decide) _ _ _ rfl (HZ.out.own.alloc _) ⟨wr.heap.size, 0, none⟩ 1 1 (TokD.cells ⟨4, ⟨#[]⟩, line, col⟩) rfl rfl (World.news_of_block (heap_alloc_new wr _)) (fun u hu => by simp [TokD.cells] at hu; rcases hu with rfl | rfl | rfl | rfl <;> rfl) (by unfold maxLen; omega) (by omega) (by have := HZ.out.size; simp; omega) ?_
                intro v4 w4 hown hgr _
                have HN := hide (TokSt.append HZ.out ((Below.refl _ _).alloc (Nat.le_refl _) _) hown hgr)
                have q0 := fun z : After w4.heap.size w4 => (HN.out.after z).cell0
                have q1 := fun z : After w4.heap.size w4 => (HN.out.after z).cell1
                have f0 := fun z : After w4.heap.size w4 => (HN.out.after z).free 0
                have f1 := fun z : After w4.heap.size w4 => (HN.out.after z).free 1
                clear hgr hown
                go_wp2
                refine wp_tail_first w4.heap.size 7 (by kernel_rfl) (by kernel_rfl) ?_
                simp only [List.take_succ_cons, List.take_zero, List.drop_succ_cons, List.drop_zero]
                repeat (go_big_quiet_step (fail))
                refine wpQuiet_nil ?_
                intro z
                go_wp2
                exact ⟨⟨S.extract 1 S.size, _, line + 1, 1, rfl, HT, by rw [HSZ.out, List.length_append, List.length_singleton]; omega, by omega, by rw [HSZ.out]; omega, by omega, by rw [HSZ.out]; omega, hide (TokSt.setPos (HN.out.after z) _ _)⟩, by have := HSZ.out; simp [HSZ.out]; omega⟩
            · clear hl hd
              have HT := hide (hf.out.blank (n := 1) HL.out (by rw [HK.out, h32, h9]; rfl) (Nat.le_refl _))
              rw [← HS1.out] at HT
              have YR : wr = (After.refl wr.heap.size wr).val := rfl
              have HSZ := hide (ext_size S 1)
              have HZ := hide (HST.out (After.refl wr.heap.size wr))
              go_wp2
              exact ⟨⟨S.extract 1 S.size, acc, line, col + 1, rfl, HT, by rw [HSZ.out]; omega, hl1, by rw [HSZ.out]; omega, by omega, by rw [HSZ.out]; omega, hide (TokSt.setCol HZ.out _)⟩, by have := HSZ.out; simp [HSZ.out]; omega⟩
          · clear hl hd
            cases h9 : ((S[0].toNat : Int) == 9)
            all_goals
              have HT := hide (hf.out.blank (n := 1) HL.out (by rw [HK.out, h32]; rfl) (Nat.le_refl _))
              rw [← HS1.out] at HT
              have YR : wr = (After.refl wr.heap.size wr).val := rfl
              have HSZ := hide (ext_size S 1)
              have HZ := hide (HST.out (After.refl wr.heap.size wr))
              go_wp2
              exact ⟨⟨S.extract 1 S.size, acc, line, col + 1, rfl, HT, by rw [HSZ.out]; omega, hl1, by rw [HSZ.out]; omega, by omega, by rw [HSZ.out]; omega, hide (TokSt.setCol HZ.out _)⟩, by have := HSZ.out; simp [HSZ.out]; omega⟩
        · have hb := digit_bounds hd
          have h32 : ((S[0].toNat : Int) == 32) = false := by rw [beq_eq_false_iff_ne]; omega
          have h9 : ((S[0].toNat : Int) == 9) = false := by rw [beq_eq_false_iff_ne]; omega
          have h10 : ((S[0].toNat : Int) == 10) = false := by rw [beq_eq_false_iff_ne]; omega
          have h35 : ((S[0].toNat : Int) == 35) = false := by rw [beq_eq_false_iff_ne]; omega
          have HK2 : Hid (nextTk (bs S) = .tok 2 (numLen (bs S))) := hide (by rw [HK.out, h32, h9, h10, h35, hl, hd]; rfl)
          have KL := hide (hl ▸ letter_any (S[0].toNat : Int) wr)
          have KD := hide fun y : After wr.heap.size wr => Gives.after (x := y) (Nat.le_refl _) (hd ▸ digit_any (S[0].toNat : Int) y.val)
          have hwl : 1 ≤ numLen (bs S) ∧ numLen (bs S) ≤ S.size := by
            obtain ⟨l, hbl⟩ := bs_cons h0
            refine ⟨by rw [hbl]; exact numLen_pos hd, by have := numLen_le (bs S); rw [bs_length] at this; exact this⟩
          have KWD := hide fun y : After wr.heap.size wr => Gives.after (x := y) (Nat.le_refl _) (numeral_any S y.val (by omega))
          clear hl hb hd HK
          generalize numLen (bs S) = n at *
          obtain ⟨hn1, hn2⟩ := hwl
          have HT := hide (hf.out.tok HL.out HK2.out hn1)
          rw [← HS1.out, ← HS2.out] at HT
          go_wp2_with fail
          refine (Gives.first KL.out).mono ?_
          rintro e w1 ⟨rfl, y1, rfl⟩
          go_wp2_with fail
          refine (KD.out y1).mono ?_
          rintro e w1 ⟨rfl, y2, rfl⟩
          go_wp2_with fail
          refine (KWD.out y2).mono ?_
          rintro e w1 ⟨rfl, y3, rfl⟩
          go_wp2
          have HZ := hide (HST.out y3)
          go_region_law ((refine step_append_lies _ (by rfl) (.tmp 69) (.tmp 76) 98 (by rfl) (w.heap.size + 2) 135 i8 (.agg #[.int .i64 0, .string ⟨#[]⟩, .int .i64 0, .int .i64 0]) 4 40 Tryz.underlying98 HI.out.1 HI.out.2.1 HI.out.2.2.1 HI.out.2.2.2 rfl (by omega) u5 acc.length (tokCells acc) (by go_simp) (HZ.out.own.alloc _) ⟨y3.val.heap.size, 0, none⟩ 1 1 (TokD.cells ⟨2, S.extract 0 n, line, col⟩) (by go_simp) rfl (World.news_of_block (heap_alloc_new y3.val _)) (fun u hu => by simp [TokD.cells] at hu; rcases hu with rfl | rfl | rfl | rfl <;> rfl) (by omega) (by unfold maxLen; omega) (by omega) (by have := HZ.out.size; simp; omega) (y3.val.heap.size + 1) (by simp) ?_; intro g cap4 w4 hown4 hgr hg hlt4))
          have HN := hide (TokSt.append HZ.out (((Below.refl _ _).alloc (Nat.le_refl _) _).drew) hown4 hgr)
          have c61 := HN.out.cell1
          have f61 := HN.out.free 1
          have HSZ := hide (ext_size S n)
          clear hgr hg hown4
          go_simp
          go_wp2
          exact ⟨⟨S.extract n S.size, _, line, col + n, rfl, HT, by rw [HSZ.out, List.length_append, List.length_singleton]; omega, hl1, by rw [HSZ.out]; omega, by omega, by rw [HSZ.out]; omega, hide (TokSt.setCol HN.out _)⟩, by have := HSZ.out; simp [HSZ.out]; omega⟩
      · have hb := letter_bounds hl
        have h32 : ((S[0].toNat : Int) == 32) = false := by rw [beq_eq_false_iff_ne]; omega
        have h9 : ((S[0].toNat : Int) == 9) = false := by rw [beq_eq_false_iff_ne]; omega
        have h10 : ((S[0].toNat : Int) == 10) = false := by rw [beq_eq_false_iff_ne]; omega
        have h35 : ((S[0].toNat : Int) == 35) = false := by rw [beq_eq_false_iff_ne]; omega
        have HK2 : Hid (nextTk (bs S) = if wordLen (bs S) ≤ 20 then .tok 1 (wordLen (bs S)) else .bad) := hide (by rw [HK.out, h32, h9, h10, h35, hl]; rfl)
        have KL := hide (hl ▸ letter_any (S[0].toNat : Int) wr)
        have hwl : 1 ≤ wordLen (bs S) ∧ wordLen (bs S) ≤ S.size := by
          obtain ⟨l, hbl⟩ := bs_cons h0
          refine ⟨by rw [hbl]; exact wordLen_pos hl, by have := wordLen_le (bs S); rw [bs_length] at this; exact this⟩
        have KWD := hide fun y : After wr.heap.size wr => Gives.after (x := y) (Nat.le_refl _) (word_any S y.val (by unfold maxLen; omega))
        clear hl hb HK
        generalize wordLen (bs S) = n at *
        obtain ⟨hn1, hn2⟩ := hwl
        by_cases h20 : n ≤ 20
        · have HT := hide (hf.out.tok HL.out (by rw [HK2.out, if_pos h20]) hn1)
          rw [← HS1.out, ← HS2.out] at HT
          go_wp2_with fail
          refine (Gives.first KL.out).mono ?_
          rintro e w1 ⟨rfl, y1, rfl⟩
          go_wp2_with fail
          refine (KWD.out y1).mono ?_
          rintro e w1 ⟨rfl, y2, rfl⟩
          go_wp2
          have HZ := hide (HST.out y2)
          go_region_law ((refine step_append_lies _ (by rfl) (.tmp 69) (.tmp 76) 98 (by rfl) (w.heap.size + 2) 135 i8 (.agg #[.int .i64 0, .string ⟨#[]⟩, .int .i64 0, .int .i64 0]) 4 40 Tryz.underlying98 HI.out.1 HI.out.2.1 HI.out.2.2.1 HI.out.2.2.2 rfl (by omega) u5 acc.length (tokCells acc) (by go_simp) (HZ.out.own.alloc _) ⟨y2.val.heap.size, 0, none⟩ 1 1 (TokD.cells ⟨1, S.extract 0 n, line, col⟩) (by go_simp) rfl (World.news_of_block (heap_alloc_new y2.val _)) (fun u hu => by simp [TokD.cells] at hu; rcases hu with rfl | rfl | rfl | rfl <;> rfl) (by omega) (by unfold maxLen; omega) (by omega) (by have := HZ.out.size; simp; omega) (y2.val.heap.size + 1) (by simp) ?_; intro g cap4 w4 hown4 hgr hg hlt4))
          have HN := hide (TokSt.append HZ.out (((Below.refl _ _).alloc (Nat.le_refl _) _).drew) hown4 hgr)
          have c61 := HN.out.cell1
          have f61 := HN.out.free 1
          have HSZ := hide (ext_size S n)
          clear hgr hg hown4
          go_simp
          go_wp2
          exact ⟨⟨S.extract n S.size, _, line, col + n, rfl, HT, by rw [HSZ.out, List.length_append, List.length_singleton]; omega, hl1, by rw [HSZ.out]; omega, by omega, by rw [HSZ.out]; omega, hide (TokSt.setCol HN.out _)⟩, by have := HSZ.out; simp [HSZ.out]; omega⟩
        · have HR := hide (hf.out.bad HL.out (by rw [HK2.out, if_neg h20]))
          go_wp2_with fail
          refine (Gives.first KL.out).mono ?_
          rintro e w1 ⟨rfl, y1, rfl⟩
          go_wp2_with fail
          refine (KWD.out y1).mono ?_
          rintro e w1 ⟨rfl, y2, rfl⟩
          have HZ := hide (HST.out y2)
          have r0 := fun z : After y2.val.heap.size y2.val => (HZ.out.after z).rcell0
          have r1 := fun z : After y2.val.heap.size y2.val => (HZ.out.after z).rcell1
          have f0 := fun z : After y2.val.heap.size y2.val => (HZ.out.after z).rfree 0
          have f1 := fun z : After y2.val.heap.size y2.val => (HZ.out.after z).rfree 1
          have q0 := fun z : After y2.val.heap.size y2.val => (HZ.out.after z).cell0
          have q1 := fun z : After y2.val.heap.size y2.val => (HZ.out.after z).cell1
          go_wp2
          refine wp_tail_first y2.val.heap.size 2 (by kernel_rfl) (by kernel_rfl) ?_
          simp only [List.take_succ_cons, List.take_zero, List.drop_succ_cons, List.drop_zero]
          repeat (go_big_quiet_step (fail))
          refine wpQuiet_nil ?_
          intro z
          go_wp2
          obtain ⟨c0, c1⟩ := two_cells (two_set (c := .int .i64 line) (d := .int .i64 col) (HZ.out.after z).res)
          refine bodyPost_ret (v := .tuple #[.slice none 0 0, .agg #[.int .i64 line, .int .i64 col], .int .i64 7]) (by simp [results, Tryz.results81, go_sem, c0, c1]) rfl ?_
          rw [HR.out]
          exact ⟨((HZ.out.after z).below.setCell (Nat.le_refl _) _).setCell (Nat.le_refl _) _, rfl⟩
end Go.Proofs.YtnjbfhfjdhfdlaaGreatDoor
