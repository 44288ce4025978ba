/- How the rows of bricks in the reader's rows turn (written by gen_turn.py). The reader's method brick (written by gen_turn.py). -/
import Derived.Test.YtnjbfhfjdhfdlaaGreatDoorSrcPut9
import Derived.Test.YtnjbfhfjdhfdlaaGreatDoorSrcItem
namespace Go.Proofs.YtnjbfhfjdhfdlaaGreatDoor
open Go.RowKit

def addBrickTo (s : SetD) (A : Option Addr) (cap : Nat) (x : BrickD) : SetD := { s with bricks := ⟨A, cap, s.bricks.l ++ [x]⟩ }
section
variable {rb n : Nat} {tv : Value} {L : List TokD} {nm : ByteArray} {ht : Int} {S : Sl SetD} {R : Sl RoofD} {C : Sl CueD} {A : Sl (ByteArray × ByteArray)} {w : World} {S0 : List SetD} {s : SetD}
theorem memRows_bricks (hS : S.l = S0 ++ [s]) : memRows S R C A = (⟨63, 13, S.val, S.l.length, S.l.flatMap SetD.cells⟩ :: ⟨73, 4, R.val, R.l.length, R.l.flatMap RoofD.cells⟩ :: ⟨80, 7, C.val, C.l.length, C.l.flatMap CueD.cells⟩ :: ⟨83, 2, A.val, A.l.length, A.l.flatMap pairCells⟩ :: (S0.flatMap SetD.rows ++ [⟨3, 1, s.lines.val, s.lines.l.length, s.lines.l.flatMap intCells⟩, ⟨75, 7, s.items.val, s.items.l.length, s.items.l.flatMap ItemD.cells⟩])) ++ ⟨77, 3, s.bricks.val, s.bricks.l.length, s.bricks.l.flatMap BrickD.cells⟩ :: (C.l.flatMap CueD.rows) := by
  simp [memRows, hS, SetD.rows]
theorem RIn.bricks (h : RIn rb tv L n nm ht S R C A w) (hS : S.l = S0 ++ [s]) : w.ownsRow (rb + 1) 77 3 s.bricks.val s.bricks.l.length (s.bricks.l.flatMap BrickD.cells) ∧ s.bricks.l.length ≤ n := by
  have hm : (⟨77, 3, s.bricks.val, s.bricks.l.length, s.bricks.l.flatMap BrickD.cells⟩ : Row) ∈ memRows S R C A := by rw [memRows_bricks hS]; simp
  exact ⟨h.rows.all _ hm, h.cnt _ hm⟩
theorem RIn.addBrick (h : RIn rb tv L n nm ht S R C A w) (hS : S.l = S0 ++ [s]) {g : Nat} (hA : S.A = some ⟨g, 0, none⟩) {w' : World} {g4 cap4 : Nat} {x : BrickD} {o : Obj}
    (hown : w'.ownsRow (rb + 1) 77 3 (.slice (some ⟨g4, 0, none⟩) (s.bricks.l.length + 1) cap4) (s.bricks.l.length + 1) (s.bricks.l.flatMap BrickD.cells ++ x.cells)) (hgr : (w.alloc o).grownBy w' s.bricks.val.ownBlock) (hg4 : s.bricks.val.ownBlock = some g4 ∨ g4 = w.heap.size + 1) (hn : s.bricks.l.length + 1 ≤ n) :
    (∃ v, w'.cell? ⟨g, S0.length * 13 + 12, none⟩ = some v) ∧ w'.frozen? ⟨g, S0.length * 13 + 12, none⟩ = false ∧ Below (rb + 1) w (w'.setCell ⟨g, S0.length * 13 + 12, none⟩ (.slice (some ⟨g4, 0, none⟩) (s.bricks.l.length + 1) cap4)) ∧
    RIn rb tv L n nm ht ⟨S.A, S.cap, S0 ++ [addBrickTo s (some ⟨g4, 0, none⟩) cap4 x]⟩ R C A (w'.setCell ⟨g, S0.length * 13 + 12, none⟩ (.slice (some ⟨g4, 0, none⟩) (s.bricks.l.length + 1) cap4)) := by
  obtain ⟨hg1, hg2, ⟨cur, hg3⟩, hcell⟩ := h.lastSet hS hA
  have hrows := h.rows
  rw [memRows_bricks hS] at hrows
  have hsep : ∀ k, s.bricks.val.ownBlock = some k → k ≠ g := by
    have h1 := h.rows.sep
    rw [memRows_bricks hS, List.cons_append, List.pairwise_cons] at h1
    have h2 := h1.1 ⟨77, 3, s.bricks.val, s.bricks.l.length, s.bricks.l.flatMap BrickD.cells⟩ (by simp)
    intro k hk e
    subst e
    exact h2 k (by rw [Sl.val, hA]; rfl) hk
  have hblk : w'.heap[g]? = some (.cells cur 63 (0, 0)) := by
    rw [hgr.block g (by simp; omega) (fun e => hsep g e.symm rfl), heap_alloc_old w o hg2]; exact hg3
  have hbel : Below (rb + 1) w w' := by
    have hlt := World.ownsRow.lt (h.bricks hS).1
    exact Below.grown ((Below.refl (rb + 1) w).alloc (by have := h.rd.lt; omega) o) hgr (by have := h.rd.lt; simp; omega) (fun k hk => (hlt k hk).1)
  have hbel2 : Below (rb + 1) w (w'.setCell ⟨g, S0.length * 13 + 12, none⟩ (.slice (some ⟨g4, 0, none⟩) (s.bricks.l.length + 1) cap4)) := hbel.setCell (p := ⟨g, S0.length * 13 + 12, none⟩) hg1 _
  have hcur : w'.cell? ⟨g, S0.length * 13 + 12, none⟩ = some s.bricks.val := (World.cell?_of_block (a := ⟨g, S0.length * 13 + 12, none⟩) (hblk.trans hg3.symm)).trans (hcell 12 _ rfl)
  refine ⟨⟨_, hcur⟩, block_unfrozen hblk _, hbel2, (show memRest nm ht ⟨S.A, S.cap, S0 ++ [addBrickTo s (some ⟨g4, 0, none⟩) cap4 x]⟩ R C A = memRest nm ht S R C A by simp [memRest, Sl.val, hS]) ▸ h.rd.low h.low hbel2, ?_, h.low, ?_⟩
  · have ha : Rows (rb + 1) (w.alloc o) _ := hrows.kept (row := none) (World.grownBy_alloc w o none) (fun k hk => by cases hk)
    have h1 := ha.turn (r' := ⟨77, 3, .slice (some ⟨g4, 0, none⟩) (s.bricks.l.length + 1) cap4, s.bricks.l.length + 1, s.bricks.l.flatMap BrickD.cells ++ x.cells⟩) hown hgr (fun k hk => by
      have hk' : g4 = k := by simpa [Value.ownBlock] using hk
      subst hk'
      rcases hg4 with h5 | h5
      · exact Or.inl h5
      · exact Or.inr (by simp; omega))
    have hs1 := (h1.all ⟨63, 13, S.val, S.l.length, S.l.flatMap SetD.cells⟩ (by simp))
    have h2 := Rows.turn (A := []) (r := ⟨63, 13, S.val, S.l.length, S.l.flatMap SetD.cells⟩) h1 (r' := ⟨63, 13, S.val, S.l.length, (S.l.flatMap SetD.cells).set (S0.length * 13 + 12) (.slice (some ⟨g4, 0, none⟩) (s.bricks.l.length + 1) cap4)⟩) (by
        unfold Row.lies at hs1 ⊢
        simp only at hs1 ⊢
        rw [Sl.val, hA] at hs1 ⊢
        exact own_set hs1 _) (by
        rw [Sl.val, hA]
        exact grown_put (World.grownBy.refl _ _)) (fun k hk => Or.inl hk)
    have he : (S.l.flatMap SetD.cells).set (S0.length * 13 + 12) (.slice (some ⟨g4, 0, none⟩) (s.bricks.l.length + 1) cap4) = (S0 ++ [addBrickTo s (some ⟨g4, 0, none⟩) cap4 x]).flatMap SetD.cells := by
      rw [hS]
      exact flat_set setCells_len' S0 (by simp [addBrickTo, SetD.cells])
    rw [he] at h2
    rw [memRows_bricks (S0 := S0) (s := addBrickTo s (some ⟨g4, 0, none⟩) cap4 x) rfl]
    simpa [addBrickTo, Sl.val, hS] using h2
  · intro r hr
    rw [memRows_bricks (S0 := S0) (s := addBrickTo s (some ⟨g4, 0, none⟩) cap4 x) rfl] at hr
    have h3 := h.cnt
    rw [memRows_bricks hS] at h3
    simp only [List.mem_append, List.mem_cons, addBrickTo, List.cons_append] at hr h3
    rcases hr with rfl | hr
    · have := h3 _ (Or.inl rfl)
      simp only [hS, List.length_append] at this ⊢
      exact this
    · rcases hr with rfl | hr
      · exact h3 _ (by simp)
      rcases hr with rfl | hr
      · exact h3 _ (by simp)
      rcases hr with rfl | hr
      · exact h3 _ (by simp)
      rcases hr with hr | hr
      · rcases hr with hr | rfl | hr
        · exact h3 r (by simp only [hr]; simp)
        · exact h3 _ (by simp)
        · rcases hr with rfl | hr
          · exact h3 _ (by simp)
          · cases hr
      · rcases hr with rfl | hr
        · simpa using hn
        · exact h3 r (by simp only [hr]; simp)
end
end Go.Proofs.YtnjbfhfjdhfdlaaGreatDoor
namespace Go.Proofs.YtnjbfhfjdhfdlaaGreatDoor
open Go.RowKit

theorem infoBrick : (Tryz.prog.info? 77).map (fun i => (i.zero, i.size, i.bytes)) = some (some (.agg #[.string ⟨#[]⟩, .int .i64 0, .int .i64 0]), 3, 32) := by kernel_rfl
theorem brickR_name {ts : List TokD} {q : Int × Int} (h : nameR ts = .error q) : brickR ts = .error q := by rw [brickR, h]; rfl
theorem brickR_nums {ts r : List TokD} {nm : ByteArray} {q : Int × Int} (h : nameR ts = .ok (nm, r)) (h2 : numsR 2 r = .error q) : brickR ts = .error q := by rw [brickR, h]; simp only [bindR]; rw [h2]
theorem brickR_ok {ts r r2 : List TokD} {nm : ByteArray} {a : List Int} (h : nameR ts = .ok (nm, r)) (h2 : numsR 2 r = .ok (a, r2)) : brickR ts = .ok (⟨nm, nth a 0, nth a 1⟩, r2) := by rw [brickR, h]; simp only [bindR]; rw [h2]
set_option maxRecDepth 100000 in
set_option maxHeartbeats 8000000 in
theorem brick_any {rb n : Nat} {tv : Value} {L : List TokD} {h0 : HouseP} {c0 : SheetP} {u w0 : World} (h : RSt rb tv L (n + 1) h0 c0 u) {t : TokD} (htk : L[n]? = some t) (hl : Last5 (L.drop (n + 1))) (hbig : L.length ≤ 1000000) (hts : ∀ t ∈ L, t.text.size ≤ 1000000) (hc : Ctx w0 rb u) :
    Calls Tryz.prog 124 #[.pointer (some ⟨rb, 0, none⟩)] u (StPost rb tv L (bodyR h0 c0 wBrick (t.line, t.col) (L.drop (n + 1))) u) := by
  obtain ⟨S, R, C, A, hin, hS, hR, hC, hA⟩ := h
  have hbody : bodyR h0 c0 wBrick (t.line, t.col) (L.drop (n + 1)) = if h0.sets = [] then .error (t.line, t.col) else bindR (brickR (L.drop (n + 1))) fun x r => .ok (({ h0 with sets := onLast (fun s => { s with bricks := s.bricks ++ [x] }) h0.sets }, c0), r) := by
    rw [bodyR, if_neg (by decide), if_neg (by decide), if_neg (by decide), if_pos rfl]
  have KL := hide (last_any hin htk hbig)
  have HB := hide hbody
  have HIN := hide hin
  have HL := hide hl
  have HC := hide hc
  clear hl hc hbody hin
  obtain ⟨k, hk⟩ : ∃ k, S.l.length = k := ⟨_, rfl⟩
  cases k with
  | zero =>
    have hs0 : S.l = [] := List.eq_nil_of_length_eq_zero hk
    have HE := hide (show bodyR h0 c0 wBrick (t.line, t.col) (L.drop (n + 1)) = .error (t.line, t.col) by rw [HB.out, if_pos (by rw [← hS, hs0]; rfl)])
    go_enter Tryz.func124, Tryz.ntmps124
    go_wp2_with fail
    refine KL.out.mono ?_
    rintro e w1 ⟨h1, -⟩
    obtain ⟨hg, rfl⟩ := h1 hs0
    refine ⟨rfl, Below.grown (Below.refl _ _) hg (Nat.le_of_lt HIN.out.rd.lt) (fun k hk => by injection hk with hk; omega), ?_⟩
    rw [HE.out]
  | succ m =>
    go_enter Tryz.func124, Tryz.ntmps124
    go_wp2_with fail
    refine KL.out.mono ?_
    rintro e w1 ⟨-, h2⟩
    obtain ⟨g, hg, rfl, z, rfl⟩ := h2 m hk
    have KN := hide (name_any (HIN.out.rd.more z.below) HL.out hbig)
    have HE := hide (show bodyR h0 c0 wBrick (t.line, t.col) (L.drop (n + 1)) = bindR (brickR (L.drop (n + 1))) fun x r => .ok (({ h0 with sets := onLast (fun s => { s with bricks := s.bricks ++ [x] }) h0.sets }, c0), r) by
      rw [HB.out, if_neg]
      intro h0'
      rw [← hS] at h0'
      have := congrArg List.length h0'
      simp [hk] at this)
    have hgz := World.grownBy.refl u (some rb) |> fun q => grown_below q z.below
    have hrbl := HIN.out.rd.lt
    clear h2 HB KL
    go_wp2_with fail
    refine KN.out.mono ?_
    rintro e w2 ⟨hg2, hx⟩
    have HG2 := hide (grown_trans hgz hg2)
    have HX := hide hx
    clear hg2 hx hgz
    cases hnm : nameR (L.drop (n + 1)) with
    | error q =>
      have h1 := HX.out
      rw [hnm] at h1
      simp only at h1
      subst h1
      refine ⟨rfl, Below.grown (Below.refl _ _) HG2.out (Nat.le_of_lt hrbl) (fun k hk => by injection hk with hk; omega), ?_⟩
      rw [HE.out, brickR_name hnm]
      rfl
    | ok v =>
      obtain ⟨nm, r⟩ := v
      have h1 := HX.out
      rw [hnm] at h1
      obtain ⟨rfl, m2, h2, h3⟩ := h1
      have hgd := name_gd (L.drop (n + 1)) HL.out
      rw [hnm] at hgd
      have H5 := hide (show Last5 (L.drop m2) by rw [h2]; exact hgd.2)
      have HR2 := hide h3
      have HN := hide (And.intro hnm h2)
      clear HX h2 h3 hnm hgd KN
      go_upto_region 2 with fail
      have KP := hide (put_any [1, 2] (cur := #[.string nm, .int .i64 0, .int .i64 0]) (ty := 77) HR2.out HIN.out.low H5.out hbig hts (HC.out.grown HG2.out) (by intro o ho; simp at ho ⊢; omega) (by decide) 155 #[.pointer (some ⟨w2.heap.size, 1, none⟩), .pointer (some ⟨w2.heap.size, 2, none⟩)] rfl 2)
      go_wp2_with fail
      refine KP.out.mono ?_
      rintro e w3 ⟨hg3, hx⟩
      have HG3 := hide (grown_trans HG2.out hg3)
      have HX := hide hx
      obtain ⟨sb, hsb⟩ : ∃ b, b = w2.heap.size := ⟨_, rfl⟩
      have HSB := hide hsb
      clear hg3 hx KP hsb
      rw [show ([1, 2] : List Nat).length = 2 from rfl] at HX
      rw [← HSB.out] at HX
      rw [← HSB.out]
      cases hns : numsR 2 (L.drop m2) with
      | error q =>
        have h1 := HX.out
        rw [hns] at h1
        simp only at h1
        subst h1
        refine ⟨rfl, Below.grown (Below.refl _ _) HG3.out (Nat.le_of_lt hrbl) (fun k hk => by injection hk with hk; omega), ?_⟩
        rw [HE.out, brickR_nums HN.out.1 (by rw [← HN.out.2]; exact hns)]
        rfl
      | ok v =>
        obtain ⟨l, r2⟩ := v
        have h1 := HX.out
        rw [hns] at h1
        obtain ⟨rfl, hsz, h2, m3, h3, h4⟩ := h1
        have hll := numsR_len 2 hns
        obtain ⟨a1, a2, a3, a4, a5, a6, rfl⟩ : ∃ a1 a2, l = [a1, a2] := by
          match l, hll with
          | [a1, a2], _ => exact ⟨_, _, rfl⟩
        have HR3 := hide h4
        have hgd2 := nums_gd 2 (L.drop m2) H5.out
        rw [hns] at hgd2
        have H53 := hide (show Last5 (L.drop m3) by rw [h3]; exact hgd2.2)
        clear hgd2
        have HEND := hide (And.intro (brickR_ok HN.out.1 (by rw [← HN.out.2]; exact hns)) (And.intro h3 hns))
        have h2 : w3.heap[sb]? = some (.cells #[.string nm, .int .i64 a1, .int .i64 a2] 77 (0, 0)) := h2
        have HV := hide h2
        clear HX h3 h4 hns hll h2
        obtain ⟨S0, s, hS'⟩ : ∃ S0 s, S.l = S0 ++ [s] := ⟨S.l.dropLast, S.l.getLast (by intro h; rw [h] at hk; simp at hk), (List.dropLast_concat_getLast _).symm⟩
        have hm : m = S0.length := by rw [hS', List.length_append] at hk; simp at hk; omega
        subst hm
        obtain ⟨i8, hi8, hz8, hs8, hb8⟩ := info_parts infoBrick
        have HI := hide (And.intro hi8 (And.intro hz8 (And.intro hs8 hb8)))
        have hlen : n + 2 ≤ m3 := by
          have e1 := name_less' HN.out.1
          have e2 := nums_less 2 _ _ _ HEND.out.2.2
          have e3 := congrArg List.length HEND.out.2.1
          have e4 := congrArg List.length HN.out.2
          simp only [List.length_drop] at e1 e2 e3 e4
          omega
        have HIN3 := hide (HIN.out.kept HG3.out HR3.out (by omega))
        have hit := (HIN3.out.bricks hS').2
        have hit0 := (HIN.out.bricks hS').2
        obtain ⟨hg1, hg2, -, hcell⟩ := HIN3.out.lastSet hS' hg
        have hcI : w3.cell? ⟨g, S0.length * 13 + 12, none⟩ = some (.slice s.bricks.A s.bricks.l.length s.bricks.cap) := hcell 12 _ rfl
        have hm3 : m3 ≤ 1000000 := by obtain ⟨_, _, _, _, _, h9⟩ := H53.out.head; omega
        have hsb := Joins.cell_of_block HV.out
        have hs0 := hsb 0
        have hs1 := hsb 1
        have hs2 := hsb 2
        clear hi8 hz8 hs8 hb8 hcell hsb
        go_wp2_with fail
        go_region_law ((refine step_append_lies _ (by rfl) (.tmp 18) (.tmp 20) 61 (by rfl) (rb + 1) 77 i8 (.agg #[.string ⟨#[]⟩, .int .i64 0, .int .i64 0]) 3 32 Tryz.underlying61 HI.out.1 HI.out.2.1 HI.out.2.2.1 HI.out.2.2.2 rfl (by omega) s.bricks.val s.bricks.l.length (s.bricks.l.flatMap BrickD.cells) (by rfl) ((HIN3.out.bricks hS').1.alloc _) ⟨w3.heap.size, 0, none⟩ 1 1 (BrickD.cells ⟨nm, a1, a2⟩) (by go_simp) rfl (World.news_of_block (heap_alloc_new w3 _)) (fun u hu => by simp [BrickD.cells] at hu; rcases hu with rfl | rfl | rfl <;> rfl) (by omega) (by unfold maxLen; omega) (by omega) (by simp; omega) (w3.heap.size + 1) (by simp) ?_; intro g4 cap4 w4 hown4 hgr4 hg4 hlt4; obtain ⟨⟨cv, hcv⟩, hfr, hbel4, hin4⟩ := RIn.addBrick HIN3.out hS' hg hown4 (undrew hgr4) hg4 (by omega)))
        all_goals
          go_end0
          refine ⟨((Below.grown (Below.refl rb u) HG3.out (Nat.le_of_lt hrbl) (fun k hk => by injection hk with hk; omega))).trans (hbel4.mono (by omega)), ?_⟩
          rw [HE.out, HEND.out.1]
          refine ⟨rfl, m3, HEND.out.2.1, _, R, C, A, hin4, ?_, hR, hC, hA⟩
          rw [← hS, hS', List.map_append, List.map_append, List.map_singleton, List.map_singleton, onLast_end]
          rfl
end Go.Proofs.YtnjbfhfjdhfdlaaGreatDoor
