/- Systems with the same plain system are the same. reeving.line: what a line adds to a system that is being read. What both parsers of a system's text answer. reeving.Parse: the system that a text says. -/
import Derived.Test.YtgamhdbcejkllaaGreatDoorReeveSame
import Derived.Test.YtgamhdbcejkllaaGreatDoorReevePlain
import Derived.Test.YtgamhdbcejkllaaGreatDoorReadRope
import Derived.Deep.AppendLies
namespace Go.Proofs.YtgamhdbcejkllaaGreatDoor
open Go.RowKit

theorem listEq_refl {α : Type} {eq : α → α → Bool} (h : ∀ x, eq x x = true) (l : List α) : listEq eq l l = true := by
  rw [listEq, decide_eq_true rfl, Bool.true_and, allIdx_iff]
  intro j y hy
  rw [eqAt, hy]
  exact h y
theorem blockEq_refl (x : BlockD) : blockEq x x = true := by simp [blockEq]
theorem holdEq_refl (x : HoldD) : holdEq x x = true := by simp [holdEq]
theorem sameS_like {s s' : SysD} (h : SysLike s s') : sameS s s' = true := by
  obtain ⟨hb, hl, hr⟩ := h
  rw [sameS, hb, listEq_refl blockEq_refl, Bool.true_and, listEq, decide_eq_true hl.symm, Bool.true_and, allIdx_iff]
  intro j y hy
  have hj : j < s'.ropes.l.length := by rw [hl]; exact (List.getElem?_eq_some_iff.1 hy).1
  have hx : s'.ropes.l[j]? = some s'.ropes.l[j] := List.getElem?_eq_getElem hj
  have hk := hr j _ _ hy hx
  rw [eqAt, hx]
  simp only [ropeEq, hk.name, hk.hauled, hk.holds, listEq_refl holdEq_refl]
  simp
theorem sameS_plain {s s' : SysD} (h : s.plain = s'.plain) : sameS s s' = true := sameS_like (SysD.plain_like h)
end Go.Proofs.YtgamhdbcejkllaaGreatDoor
namespace Go.Proofs.YtgamhdbcejkllaaGreatDoor
open Go.RowKit

theorem partsOf_part {k : UInt8} : ∀ {l p : List UInt8}, p ∈ partsOf k l → p.length ≤ l.length
  | [], p, h => by
    rw [partsOf, List.mem_singleton] at h
    subst h
    exact Nat.le_refl _
  | c :: l, p, h => by
    obtain ⟨a, t, e⟩ := partsOf_ne k l
    have ih : ∀ {q}, q ∈ partsOf k l → q.length ≤ l.length := fun h => partsOf_part h
    rw [e] at ih
    rw [partsOf] at h
    split at h
    · rcases List.mem_cons.1 h with rfl | h
      · simp
      · rw [e] at h
        exact Nat.le_trans (ih h) (by simp)
    · rw [e] at h
      simp only at h
      rcases List.mem_cons.1 h with rfl | h
      · have := ih (q := a) (by simp)
        simp; omega
      · exact Nat.le_trans (ih (List.mem_cons_of_mem _ h)) (by simp)
theorem HoldsIn.base {b c : Nat} {r : RopeD} {x : World} (h : HoldsIn b r x) (hc : c ≤ b) : HoldsIn c r x := by
  obtain ⟨g, h1, h2, h3⟩ := h
  exact ⟨g, h1, Nat.le_trans hc h2, h3⟩
/-- a system that is being read, and the block in which it stands -/
structure SysIn (W : World) (o : Nat) (s : SysD) (x : World) : Prop where
  st : SysSt W s x
  lo : W.heap.size ≤ o
  box : x.heap[o]? = some (.cells #[.slice s.blocks.A s.blocks.l.length s.blocks.cap, .slice s.ropes.A s.ropes.l.length s.ropes.cap] 25 (0, 0))
theorem SysIn.lt {W x : World} {o : Nat} {s : SysD} (h : SysIn W o s x) : o < x.heap.size := (Array.getElem?_eq_some_iff.1 h.box).1
theorem SysIn.more {W x y : World} {o : Nat} {s : SysD} (h : SysIn W o s x) (hb : Below x.heap.size x y) : SysIn W o s y := ⟨h.st.more hb, h.lo, (hb.block o h.lt).trans h.box⟩
theorem SysIn.addBlock {W x u y : World} {o : Nat} {s : SysD} {v' : Value} {b : BlockD} (h : SysIn W o s x) (hb : Below x.heap.size x u) (hbo : b.ok) (hown : y.ownsRow W.heap.size 50 2 v' (s.blocks.l.length + 1) (s.blocks.l.flatMap BlockD.cells ++ b.cells)) (hgr : u.grownBy y (Value.slice s.blocks.A s.blocks.l.length s.blocks.cap).ownBlock) :
    y.heap[o]? = some (.cells #[.slice s.blocks.A s.blocks.l.length s.blocks.cap, .slice s.ropes.A s.ropes.l.length s.ropes.cap] 25 (0, 0)) ∧ ∃ A cap, v' = .slice A (s.blocks.l.length + 1) cap ∧ SysIn W o ⟨⟨A, cap, s.blocks.l ++ [b]⟩, s.ropes⟩ (y.setCell ⟨o, 0, none⟩ v') := by
  have h2 := h.more hb
  have hbx : y.heap[o]? = some (.cells #[.slice s.blocks.A s.blocks.l.length s.blocks.cap, .slice s.ropes.A s.ropes.l.length s.ropes.cap] 25 (0, 0)) := (keep_type h2.st.blk hgr h2.box (by decide)).trans h2.box
  obtain ⟨A, cap, hv, h3⟩ := h.st.addBlock hb hbo hown hgr
  refine ⟨hbx, A, cap, hv, h3.set hbx h.lo, h.lo, ?_⟩
  rw [block_set hbx, hv]
  simp
theorem SysIn.addRope {W x u y : World} {o : Nat} {s : SysD} {v' : Value} {r : RopeD} (h : SysIn W o s x) (hb : Below x.heap.size x u) (hro : r.ok) (hr : r.holds.l = [] ∧ r.holds.A = none ∧ r.holds.cap = 0 ∨ HoldsIn W.heap.size r u) (hown : y.ownsRow W.heap.size 53 3 v' (s.ropes.l.length + 1) (s.ropes.l.flatMap RopeD.cells ++ r.cells)) (hgr : u.grownBy y (Value.slice s.ropes.A s.ropes.l.length s.ropes.cap).ownBlock) :
    y.heap[o]? = some (.cells #[.slice s.blocks.A s.blocks.l.length s.blocks.cap, .slice s.ropes.A s.ropes.l.length s.ropes.cap] 25 (0, 0)) ∧ ∃ A cap, v' = .slice A (s.ropes.l.length + 1) cap ∧ SysIn W o ⟨s.blocks, ⟨A, cap, s.ropes.l ++ [r]⟩⟩ (y.setCell ⟨o, 1, none⟩ v') := by
  have h2 := h.more hb
  have hbx : y.heap[o]? = some (.cells #[.slice s.blocks.A s.blocks.l.length s.blocks.cap, .slice s.ropes.A s.ropes.l.length s.ropes.cap] 25 (0, 0)) := (keep_type h2.st.rop hgr h2.box (by decide)).trans h2.box
  obtain ⟨A, cap, hv, h3⟩ := h.st.addRope hb hro hr hown hgr
  refine ⟨hbx, A, cap, hv, h3.set hbx h.lo, h.lo, ?_⟩
  rw [block_set hbx, hv]
  simp
/-- what reading a line answers: whether it has its form, and then the system with what it says -/
def LineR (W : World) (o : Nat) (s : SysD) (ws : List (List UInt8)) (e : Ending) (w' : World) : Prop :=
  ∃ ok : Bool, e = .returned (.bool ok) ∧ Below W.heap.size W w' ∧ ((ok = true ∧ ∃ s', lineE fracOk s.plain ws = some s'.plain ∧ s'.blocks.l.length + s'.ropes.l.length = s.blocks.l.length + s.ropes.l.length + 1 ∧ SysIn W o s' w') ∨ (ok = false ∧ lineE fracOk s.plain ws = none))
set_option maxRecDepth 100000 in
set_option maxHeartbeats 8000000 in
theorem line_any (W : World) (o : Nat) (s : SysD) (T : ByteArray) (hT : T.size ≤ 500000) (hn : s.blocks.l.length + s.ropes.l.length ≤ 1000000) (x : World) (h : SysIn W o s x) (ht : TabsT x) :
    Calls Tryz.prog 18 #[.pointer (some ⟨o, 0, none⟩), .string T] x (LineR W o s (partsOf 32 (bs T))) := by
  have hol := h.lt
  have KS := hide (split_any 32 T x ht (by omega))
  have HTX := hide ht
  have HX := hide h
  clear h ht
  go_enter Tryz.func18, Tryz.ntmps18
  go_wp2_with fail
  refine KS.out.mono ?_
  rintro e w1 ⟨LB, hLB, rfl, hw1⟩
  have hb1 : Below x.heap.size x w1 := by rw [hw1]; exact (Below.refl _ _).alloc (Nat.le_refl _) _
  have hh1 : w1.heap[x.heap.size]? = some (.cells (LB.map Value.string).toArray 9 (0, 0)) := by rw [hw1]; exact heap_alloc_new x _
  have hs1 : w1.heap.size = x.heap.size + 1 := by rw [hw1]; simp
  have hIn : SysIn W o s w1 := HX.out.more hb1
  have hT1 : TabsT w1 := HTX.out.below hb1
  obtain ⟨g, hg⟩ : ∃ g, g = x.heap.size := ⟨_, rfl⟩
  rw [← hg] at hh1 hs1 ⊢
  have hel : ∀ k b, LB[k]? = some b → ∀ y : After w1.heap.size w1, y.val.cell? ⟨g, k, none⟩ = some (.string b) := fun k b hb y =>
    y.cells hh1 (by omega) k _ (by simp [hb])
  have hlen : LB.length ≤ T.size + 1 := by
    have h1 := congrArg List.length hLB
    rw [List.length_map, partsOf_length] at h1
    have h2 := List.count_le_length (a := (32 : UInt8)) (l := bs T)
    rw [bs_length] at h2
    omega
  have hsz : ∀ b ∈ LB, b.size ≤ T.size := fun b hb => by
    have h1 : bs b ∈ partsOf 32 (bs T) := by rw [← hLB]; exact List.mem_map_of_mem hb
    have h2 := partsOf_part h1
    rwa [bs_length, bs_length] at h2
  obtain ⟨b0, hb0⟩ : ∃ b0, LB[0]? = some b0 := by
    obtain ⟨p, q, hpq⟩ := partsOf_ne 32 (bs T)
    cases hq : LB with
    | nil => rw [hq, hpq] at hLB; cases hLB
    | cons a l => exact ⟨a, rfl⟩
  have hl0 : 0 < LB.length := (List.getElem?_eq_some_iff.1 hb0).1
  have hhd : (LB.map bs).head? = some (bs b0) := by
    rw [List.head?_map, List.head?_eq_getElem?, hb0]; rfl
  have hc0 := hel 0 b0 hb0
  have hc00 := hc0 (After.refl _ _)
  simp only [After.refl] at hc00
  have hos : o < w1.heap.size := by omega
  have hgs : g < w1.heap.size := by omega
  have HG := hide hg
  have hbx := fun y : After w1.heap.size w1 => two_cells ((y.below.block o hos).trans hIn.box)
  have hbx0 := hbx (After.refl _ _)
  simp only [After.refl] at hbx0
  have HEL := hide hel
  have HSZ := hide hsz
  have HIN := hide hIn
  have HT1 := hide hT1
  have HHD := hide hhd
  have HB1 := hide hh1
  have HLB := hide hLB
  clear hIn hT1 hhd hel hsz hh1 hw1 hb1 hLB KS HX HTX hg
  obtain ⟨ib, hib⟩ : ∃ v : Bool, (b0.toList == [98, 108, 111, 99, 107]) = v := ⟨_, rfl⟩
  obtain ⟨i3, hi3⟩ : ∃ v : Bool, ((LB.length : Int) == 3) = v := ⟨_, rfl⟩
  obtain ⟨r0, hr0⟩ : ∃ v : Bool, ((s.ropes.l.length : Int) == 0) = v := ⟨_, rfl⟩
  have hib2 : decide (bs b0 = wBlock) = ib := by rw [← hib]; exact (Bool.beq_eq_decide_eq _ _).symm
  have HI3 := hide hi3
  have HR0 := hide hr0
  have HIB := hide hib2
  clear hib2
  go_upto_region 2 with fail
  go_cut [12] (fun a wx => a = .bool (ib && i3 && r0) ∧ wx = w1)
  case first =>
    cases ib
    · go_wp2_with fail
      go_meet
      exact ⟨rfl, rfl⟩
    · cases i3
      · go_wp2_with fail
        go_meet
        exact ⟨rfl, rfl⟩
      · cases r0
        · go_wp2_with fail
          go_meet
          exact ⟨rfl, rfl⟩
        · go_wp2_with fail
          go_meet
          exact ⟨rfl, rfl⟩
  case rest =>
  obtain ⟨rfl, rfl⟩ := hcut
  clear hib hi3 hr0
  have HLN := hide hn
  obtain ⟨i0, hi, hz0, hz1, hz2⟩ := info_parts infoBlk
  obtain ⟨i1, hj, hy0, hy1, hy2⟩ := info_parts infoRpe
  have HI := hide (And.intro hi (And.intro hz0 (And.intro hz1 hz2)))
  have HJ := hide (And.intro hj (And.intro hy0 (And.intro hy1 hy2)))
  clear hi hz0 hz1 hz2 hj hy0 hy1 hy2
  have hWb : Below W.heap.size W wc := HIN.out.st.bel
  have HWB := hide hWb
  have hWs := hWb.size
  clear hWb
  rcases (show (ib && i3 && r0) = true ∨ (ib && i3 && r0) = false by cases (ib && i3 && r0) <;> simp) with hblk | hblk
  · -- a block's line
    rw [hblk]
    simp only [Bool.and_eq_true] at hblk
    obtain ⟨⟨rfl, rfl⟩, rfl⟩ := hblk
    have h3 : LB.length = 3 := by have := HI3.out; simp at this; omega
    have hr0 : s.plain.ropes = [] := by
      have := HR0.out; simp at this
      show s.ropes.l.map RopeD.plain = []
      rw [this]; rfl
    obtain ⟨b1, hb1⟩ : ∃ b, LB[1]? = some b := ⟨LB[1], List.getElem?_eq_getElem (by omega)⟩
    obtain ⟨b2, hb2⟩ : ∃ b, LB[2]? = some b := ⟨LB[2], List.getElem?_eq_getElem (by omega)⟩
    have hz1 := HSZ.out b1 (List.mem_of_getElem? hb1)
    have hz2 := HSZ.out b2 (List.mem_of_getElem? hb2)
    have hc1 := HEL.out 1 b1 hb1
    have hc2 := HEL.out 2 b2 hb2
    have hc20 := hc2 (After.refl _ _)
    simp only [After.refl] at hc20
    have HE0 := hide (lineE_first (ok := fracOk) (s := s.plain) (w := LB.map bs) (by rw [HHD.out, of_decide_eq_true HIB.out]) hr0)
    have HE1 := hide (blockE_three (w := LB.map bs) (a := bs b1) (b := bs b2) (by rw [List.length_map, h3]) (by simp [hb1]) (by simp [hb2]))
    have KN := hide (number_any b2 (by omega) wc HT1.out)
    have KM := hide fun (y : After wc.heap.size wc) => Gives.after (x := y) (Nat.le_refl _) (isName_any b1 y.val (by unfold maxLen; omega))
    obtain ⟨nb, hnb⟩ : ∃ nb, isName b1 = nb := ⟨_, rfl⟩
    rw [hnb] at KM
    have HNB := hide hnb
    have HL3 := hide h3
    have h31 : (1 : Int) < (LB.length : Int) := by omega
    have h32 : (2 : Int) < (LB.length : Int) := by omega
    clear hnb hr0 hb1 hb2 h3 hb0 hc2
    go_wp2_with fail
    refine KN.out.mono ?_
    rintro e w2 ⟨n, okn, rfl, hbn, hn1⟩
    obtain ⟨y, rfl⟩ := After.exists_iff hbn
    have HN1 := hide hn1
    clear hbn hn1 hc20
    have hc1y := hc1 y
    go_upto_region 4 with fail
    go_cut [45] (fun a wx => a = .bool (!(okn && nb)) ∧ ∃ z : After wc.heap.size wc, wx = z.val)
    case first =>
      cases okn
      · go_wp2_with fail
        go_meet
        exact ⟨rfl, y, rfl⟩
      · cases nb
        · go_wp2_with (go_at_call 35; refine (KM.out y).mono ?_; rintro e w1 ⟨rfl, z, rfl⟩)
          go_meet
          exact ⟨rfl, z, rfl⟩
        · go_wp2_with (go_at_call 35; refine (KM.out y).mono ?_; rintro e w1 ⟨rfl, z, rfl⟩)
          go_meet
          exact ⟨rfl, z, rfl⟩
    case rest =>
    obtain ⟨rfl, z, rfl⟩ := hcut
    clear hc1y
    cases hgood : (okn && nb)
    · have HN := hide (show lineE fracOk s.plain (partsOf 32 (bs T)) = none by
        rw [← HLB.out, HE0.out, HE1.out]
        cases nb
        · rw [if_neg (by rw [show isNameL (bs b1) = isName b1 from rfl, HNB.out]; simp)]; rfl
        · simp only [Bool.and_true] at hgood
          subst hgood
          rw [show numE (bs b2) = none from HN1.out]
          split <;> rfl)
      clear hgood
      go_wp2_with fail
      go_ret
      exact ⟨false, rfl, HWB.out.trans (z.below.mono hWs), Or.inr ⟨rfl, HN.out⟩⟩
    · simp only [Bool.and_eq_true] at hgood
      obtain ⟨rfl, rfl⟩ := hgood
      have HNE := hide (show numE (bs b2) = some n from HN1.out)
      have HINz := hide (HIN.out.more z.below)
      have HBOK := hide (show BlockD.ok ⟨b1, n⟩ from ⟨by show b1.size ≤ maxLen; unfold maxLen; omega, by have := numE_small HNE.out; show -9223372036854775808 ≤ n ∧ n ≤ 9223372036854775807; omega⟩)
      have HN := hide (show lineE fracOk s.plain (partsOf 32 (bs T)) = some { s.plain with blocks := s.plain.blocks ++ [(bs b1, n)] } by
        rw [← HLB.out, HE0.out, HE1.out, if_pos (by rw [show isNameL (bs b1) = isName b1 from rfl, HNB.out]), HNE.out]; rfl)
      have hc1z := hc1 z
      have hbxz := hbx z
      have hoz : o < z.val.heap.size := by have := z.size; omega
      have hgz : g < z.val.heap.size := by have := z.size; omega
      have hbs : s.blocks.l.length + 1 ≤ 1000001 := by omega
      have hc1za := fun o1 => hc1 ⟨z.val.alloc o1, z.below.alloc z.size _⟩
      clear hc1 hbx hbx0 hc0 hc00
      go_wp2_with fail
      go_region_law ((refine step_append_lies _ (by rfl) (.tmp 50) (.tmp 56) 22 (by rfl) W.heap.size 50 i0 _ 2 24 Tryz.underlying22 HI.out.1 HI.out.2.1 HI.out.2.2.1 HI.out.2.2.2 rfl (by omega) (.slice s.blocks.A s.blocks.l.length s.blocks.cap) s.blocks.l.length (s.blocks.l.flatMap BlockD.cells) (by go_simp) (HINz.out.st.blk.alloc _) ⟨z.val.heap.size, 0, none⟩ 1 1 (BlockD.cells ⟨b1, n⟩) (by go_simp) rfl (World.news_of_block (heap_alloc_new z.val _)) (fun u hu => by simp [BlockD.cells] at hu; rcases hu with rfl | rfl <;> rfl) (by omega) (by unfold maxLen; omega) (by omega) (by have := z.size; simp; omega) (z.val.heap.size + 1) (by simp) ?_; intro g4 cap4 w4 hown4 hgr4 hg4 hlt4; have hadd4 := HINz.out.addBlock (b := ⟨b1, n⟩) ((Below.refl _ _).alloc (Nat.le_refl _) _).drew HBOK.out hown4 hgr4; have hb4 := two_cells hadd4.1; have hf4 := block_unfrozen hadd4.1 0; have hl4 := (Array.getElem?_eq_some_iff.1 hadd4.1).1))
      all_goals
        obtain ⟨_, A4, c4, hv4, hin4⟩ := hadd4
        have HIN4 := hide hin4
        clear hown4 hgr4 hb4 hf4 hin4 hv4
        go_simp
        go_wp2_with fail
        go_ret
        exact ⟨true, rfl, HIN4.out.st.bel, Or.inl ⟨rfl, _, by rw [HN.out]; simp [SysD.plain, BlockD.plain], by simp; omega, HIN4.out⟩⟩
  · -- another line
    rw [hblk]
    obtain ⟨ir, hir⟩ : ∃ v : Bool, (b0.toList == [114, 111, 112, 101]) = v := ⟨_, rfl⟩
    have hir2 : decide (bs b0 = wRope) = ir := by rw [← hir]; exact (Bool.beq_eq_decide_eq _ _).symm
    cases ir
    · have HN := hide (show lineE fracOk s.plain (partsOf 32 (bs T)) = none by
        rw [← HLB.out]
        by_cases h1 : bs b0 = wBlock ∧ s.plain.ropes = []
        · have e1 : ib = true := by rw [← HIB.out, h1.1]; rfl
          have e2 : r0 = true := by
            rw [← HR0.out]
            have : s.ropes.l.length = 0 := by rw [← List.length_map (f := RopeD.plain), show s.ropes.l.map RopeD.plain = [] from h1.2]; rfl
            simp [this]
          rw [e1, e2] at hblk
          simp at hblk
          have e3 : LB.length ≠ 3 := by have := HI3.out; rw [hblk] at this; simp at this; omega
          rw [lineE_first (by rw [HHD.out, h1.1]) h1.2, blockE_long (by rw [List.length_map]; exact e3)]; rfl
        · refine lineE_other (fun h => h1 ⟨by have := h.1; rw [HHD.out] at this; injection this, h.2⟩) (fun h => ?_)
          rw [HHD.out] at h
          injection h with h
          rw [decide_eq_true h] at hir2
          cases hir2)
      clear hblk hir2
      go_wp2_with fail
      go_ret
      exact ⟨false, rfl, HWB.out, Or.inr ⟨rfl, HN.out⟩⟩
    · have HE := hide (lineE_second (ok := fracOk) (s := s.plain) (w := LB.map bs) (by rw [HHD.out, of_decide_eq_true hir2]))
      have hat : SlAt wc wc.heap.size 1 strCells ⟨some ⟨g, 0, none⟩, LB.length, LB⟩ := ⟨Nat.le_refl _, by show LB.length ≤ maxLen; unfold maxLen; omega, fun _ => ⟨g, 0, rfl, hgs, fun i x hx j u hu => by
        rw [Nat.zero_add]
        cases j with
        | zero =>
          simp [strCells] at hu
          subst hu
          have h9 := HEL.out i x hx (After.refl _ _)
          simp only [After.refl] at h9
          rw [show i * 1 + 0 = i by omega]
          exact h9
        | succ j => simp [strCells] at hu⟩⟩
      have KR := hide (readRope_any (some ⟨g, 0, none⟩) LB.length LB (fun b hb => by have := HSZ.out b hb; omega) (by omega) (by unfold maxLen; omega) wc HT1.out wc.heap.size (Nat.le_refl _) hat)
      clear hblk hir2 hat hc0
      go_wp2_with fail
      refine KR.out.mono ?_
      rintro e w2 ⟨r, okr, rfl, hbr, hrok, hres⟩
      obtain ⟨y, rfl⟩ := After.exists_iff hbr
      obtain ⟨V, hV, hVs, hVb, hVh⟩ := boxed y.val (.cells #[.string r.name, .slice r.holds.A r.holds.l.length r.holds.cap, .bool r.hauled] 53)
      have HRES := hide hres
      have HROK := hide hrok
      have hys := y.size
      have hVr := RopeD.boxed hVh (show y.val.heap.size < V.heap.size by omega) (After.refl _ _)
      simp only [After.refl] at hVr
      have HINv := hide ((HIN.out.more y.below).more hVb)
      have hVo := two_cells HINv.out.box
      have HV := hide hV
      have HVY := hide (y.below.trans (hVb.mono hys))
      have hyV : y.val.heap.size < V.heap.size := by omega
      have hoV : o < V.heap.size := HINv.out.lt
      have hVra := fun o1 => RopeD.boxed hVh hyV ⟨V.alloc o1, (Below.refl _ _).alloc (Nat.le_refl _) o1⟩
      simp only at hVra
      have hVoa := fun o1 => two_cells ((HINv.out.more ((Below.refl V.heap.size V).alloc (Nat.le_refl _) o1)).box)
      have hrop : ∀ u, Below V.heap.size V u → r.holds.l = [] ∧ r.holds.A = none ∧ r.holds.cap = 0 ∨ HoldsIn W.heap.size r u := fun u hu => by
        rcases HRES.out with ⟨_, _, h1⟩ | ⟨_, _, h1⟩
        · exact Or.inr (((h1.base hWs).more hVb).more hu)
        · rw [h1]; exact Or.inl ⟨rfl, rfl, rfl⟩
      clear hbr hres hrok hV hVb hVh hbx hbx0
      go_wp2_with fail
      rw [← HV.out]
      go_region_law ((refine step_append_lies _ (by rfl) (.tmp 74) (.tmp 76) 23 (by rfl) W.heap.size 53 i1 _ 3 48 Tryz.underlying23 HJ.out.1 HJ.out.2.1 HJ.out.2.2.1 HJ.out.2.2.2 rfl (by omega) (.slice s.ropes.A s.ropes.l.length s.ropes.cap) s.ropes.l.length (s.ropes.l.flatMap RopeD.cells) (by go_simp) (HINv.out.st.rop.alloc _) ⟨V.heap.size, 0, none⟩ 1 1 (RopeD.cells r) (by go_simp) rfl (World.news_of_block (heap_alloc_new V _)) (fun u hu => by simp [RopeD.cells] at hu; rcases hu with rfl | rfl | rfl <;> rfl) (by omega) (by unfold maxLen; omega) (by omega) (by have := HINv.out.st.bel.size; simp; omega) (V.heap.size + 1) (by simp) ?_; intro g4 cap4 w4 hown4 hgr4 hg4 hlt4; have hbu := HINv.out.addRope (r := r) ((Below.refl _ _).alloc (Nat.le_refl _) _).drew HROK.out (hrop _ ((Below.refl _ _).alloc (Nat.le_refl _) _).drew) hown4 hgr4; have hb4 := two_cells hbu.1; have hf4 := block_unfrozen hbu.1 1; have hl4 := (Array.getElem?_eq_some_iff.1 hbu.1).1))
      all_goals
        obtain ⟨_, A4, c4, hv4, hin4⟩ := hbu
        have HIN4 := hide hin4
        clear hown4 hgr4 hb4 hf4 hin4 hv4
        go_simp
        go_wp2_with fail
        go_ret
        refine ⟨okr, rfl, HIN4.out.st.bel, ?_⟩
        rcases HRES.out with ⟨rfl, h1, _⟩ | ⟨rfl, h1, _⟩
        · exact Or.inl ⟨rfl, _, by rw [← HLB.out, HE.out, h1]; simp [SysD.plain], by simp; omega, HIN4.out⟩
        · exact Or.inr ⟨rfl, by rw [← HLB.out, HE.out, h1]; rfl⟩
end Go.Proofs.YtgamhdbcejkllaaGreatDoor
namespace Go.Proofs.YtgamhdbcejkllaaGreatDoor
open Go.RowKit

def noSys : SysD := ⟨⟨none, 0, []⟩, ⟨none, 0, []⟩⟩
theorem noSys_plain : noSys.plain = ⟨[], []⟩ := rfl
theorem noSys_ok : noSys.ok := ⟨fun x hx => absurd hx (by simp [noSys]), fun x hx => absurd hx (by simp [noSys])⟩
theorem noSys_at (w : World) (B : Nat) : SysD.at_ w B noSys := ⟨⟨Nat.le_refl _, by simp [noSys, maxLen], fun h => absurd h (by simp [noSys])⟩, ⟨Nat.le_refl _, by simp [noSys, maxLen], fun h => absurd h (by simp [noSys])⟩, fun r hr => absurd hr (by simp [noSys])⟩
/-- the system, the line, the column and the error that a text gives -/
def ParseOf (T : List UInt8) (s : SysD) (l c er : Int) : Prop :=
  (262144 < T.length ∧ s.plain = ⟨[], []⟩ ∧ l = 0 ∧ c = 0 ∧ er = 4) ∨
  (T.length ≤ 262144 ∧ ∃ i : Nat, linesE fracOk ⟨[], []⟩ 1 (partsOf 10 T) = .error i ∧ s.plain = ⟨[], []⟩ ∧ l = i ∧ c = 1 ∧ er = 7) ∨
  (T.length ≤ 262144 ∧ linesE fracOk ⟨[], []⟩ 1 (partsOf 10 T) = .ok s.plain ∧ sysOk s = true ∧ l = 0 ∧ c = 0 ∧ er = 0) ∨
  (T.length ≤ 262144 ∧ (∃ s2 : SysD, linesE fracOk ⟨[], []⟩ 1 (partsOf 10 T) = .ok s2.plain ∧ sysOk s2 = false) ∧ s.plain = ⟨[], []⟩ ∧ l = 0 ∧ c = 0 ∧ er = 1)
theorem ParseOf.same {T : List UInt8} {s s' : SysD} {l c er l' c' er' : Int} (h : ParseOf T s l c er) (h' : ParseOf T s' l' c' er') : s.plain = s'.plain ∧ l = l' ∧ c = c' ∧ er = er' := by
  rcases h with ⟨a1, a2, a3, a4, a5⟩ | ⟨a1, i, a6, a2, a3, a4, a5⟩ | ⟨a1, a6, a2, a3, a4, a5⟩ | ⟨a1, ⟨x, a6, a7⟩, a2, a3, a4, a5⟩ <;>
  rcases h' with ⟨b1, b2, b3, b4, b5⟩ | ⟨b1, k, b6, b2, b3, b4, b5⟩ | ⟨b1, b6, b2, b3, b4, b5⟩ | ⟨b1, ⟨y, b6, b7⟩, b2, b3, b4, b5⟩
  · exact ⟨a2.trans b2.symm, a3.trans b3.symm, a4.trans b4.symm, a5.trans b5.symm⟩
  · omega
  · omega
  · omega
  · omega
  · rw [a6] at b6; injection b6 with b6; subst b6; exact ⟨a2.trans b2.symm, a3.trans b3.symm, a4.trans b4.symm, a5.trans b5.symm⟩
  · rw [a6] at b6; cases b6
  · rw [a6] at b6; cases b6
  · omega
  · rw [a6] at b6; cases b6
  · rw [a6] at b6; injection b6 with b6; exact ⟨b6, a3.trans b3.symm, a4.trans b4.symm, a5.trans b5.symm⟩
  · rw [a6] at b6; injection b6 with b6
    have := sysOk_plain b6
    rw [b7, a2] at this; cases this
  · omega
  · rw [a6] at b6; cases b6
  · rw [a6] at b6; injection b6 with b6
    have := sysOk_plain b6
    rw [b2, a7] at this; cases this
  · exact ⟨a2.trans b2.symm, a3.trans b3.symm, a4.trans b4.symm, a5.trans b5.symm⟩
/-- the text of a valid system gives the system -/
theorem ParseOf.text {s s' : SysD} {l c er : Int} (hv : sysOk s = true) (hl : (sysP s.plain).length ≤ 262144) (h : ParseOf (sysP s.plain) s' l c er) : s'.plain = s.plain ∧ l = 0 ∧ c = 0 ∧ er = 0 := by
  have ht := linesE_text (sysFit hv)
  have h2 : ParseOf (sysP s.plain) s 0 0 0 := Or.inr (Or.inr (Or.inl ⟨hl, ht, hv, rfl, rfl, rfl⟩))
  exact h.same h2
/-- what a parser gives -/
def ParseR (w : World) (T : List UInt8) (e : Ending) (w' : World) : Prop :=
  ∃ (s : SysD) (l c er : Int), e = .returned (.tuple #[.agg #[.slice s.blocks.A s.blocks.l.length s.blocks.cap, .slice s.ropes.A s.ropes.l.length s.ropes.cap], .agg #[.int .i64 l, .int .i64 c], .int .i64 er]) ∧ ParseOf T s l c er ∧ s.ok ∧ SysD.at_ w' w'.heap.size s ∧ Below w.heap.size w w'
/-- two result cells of two words each: all that their stores and loads ask -/
theorem res_all {z : World} {r1 r2 : Nat} {a b c d : Value} {t t' : TypeId} (h1 : z.heap[r1]? = some (.cells #[a, b] t (0, 0))) (h2 : z.heap[r2]? = some (.cells #[c, d] t' (0, 0))) (hne : r1 < r2) (p q u v : Value) :
    (z.cell? ⟨r1, 0, none⟩ = some a ∧ z.cell? ⟨r1, 1, none⟩ = some b ∧ z.cell? ⟨r2, 0, none⟩ = some c ∧ z.cell? ⟨r2, 1, none⟩ = some d) ∧
    (∀ i, z.frozen? ⟨r1, i, none⟩ = false) ∧ ((z.setCell ⟨r1, 0, none⟩ p).cell? ⟨r1, 1, none⟩ = some b ∧ ∀ i, (z.setCell ⟨r1, 0, none⟩ p).frozen? ⟨r1, i, none⟩ = false) ∧
    (((z.setCell ⟨r1, 0, none⟩ p).setCell ⟨r1, 1, none⟩ q).cell? ⟨r2, 0, none⟩ = some c ∧ ∀ i, ((z.setCell ⟨r1, 0, none⟩ p).setCell ⟨r1, 1, none⟩ q).frozen? ⟨r2, i, none⟩ = false) ∧
    ((((z.setCell ⟨r1, 0, none⟩ p).setCell ⟨r1, 1, none⟩ q).setCell ⟨r2, 0, none⟩ u).cell? ⟨r2, 1, none⟩ = some d ∧ ∀ i, (((z.setCell ⟨r1, 0, none⟩ p).setCell ⟨r1, 1, none⟩ q).setCell ⟨r2, 0, none⟩ u).frozen? ⟨r2, i, none⟩ = false) ∧
    (((((z.setCell ⟨r1, 0, none⟩ p).setCell ⟨r1, 1, none⟩ q).setCell ⟨r2, 0, none⟩ u).setCell ⟨r2, 1, none⟩ v).cell? ⟨r1, 0, none⟩ = some p ∧ ((((z.setCell ⟨r1, 0, none⟩ p).setCell ⟨r1, 1, none⟩ q).setCell ⟨r2, 0, none⟩ u).setCell ⟨r2, 1, none⟩ v).cell? ⟨r1, 1, none⟩ = some q ∧
     ((((z.setCell ⟨r1, 0, none⟩ p).setCell ⟨r1, 1, none⟩ q).setCell ⟨r2, 0, none⟩ u).setCell ⟨r2, 1, none⟩ v).cell? ⟨r2, 0, none⟩ = some u ∧ ((((z.setCell ⟨r1, 0, none⟩ p).setCell ⟨r1, 1, none⟩ q).setCell ⟨r2, 0, none⟩ u).setCell ⟨r2, 1, none⟩ v).cell? ⟨r2, 1, none⟩ = some v) := by
  have g1 := block_set h1 (i := 0) p
  have g2 := two_set (c := p) (d := q) h1
  have k0 : ∀ x, (z.setCell ⟨r1, 0, none⟩ x).heap[r2]? = z.heap[r2]? := fun x => RowKit.Below.heap_setCell _ _ _ _ (by simp only; omega)
  have k1 : ((z.setCell ⟨r1, 0, none⟩ p).setCell ⟨r1, 1, none⟩ q).heap[r2]? = some (.cells #[c, d] t' (0, 0)) := (RowKit.Below.heap_setCell _ _ _ _ (by simp only; omega)).trans ((k0 p).trans h2)
  have k2 := block_set k1 (i := 0) u
  have k3 := two_set (c := u) (d := v) k1
  have k4 : ((((z.setCell ⟨r1, 0, none⟩ p).setCell ⟨r1, 1, none⟩ q).setCell ⟨r2, 0, none⟩ u).setCell ⟨r2, 1, none⟩ v).heap[r1]? = some (.cells #[p, q] t (0, 0)) :=
    (RowKit.Below.heap_setCell _ _ _ _ (by simp only; omega)).trans ((RowKit.Below.heap_setCell _ _ _ _ (by simp only; omega)).trans g2)
  exact ⟨⟨(two_cells h1).1, (two_cells h1).2, (two_cells h2).1, (two_cells h2).2⟩, fun i => block_unfrozen h1 i, ⟨(Joins.cell_of_block g1 1).trans rfl, fun i => block_unfrozen g1 i⟩, ⟨(two_cells k1).1, fun i => block_unfrozen k1 i⟩,
    ⟨(Joins.cell_of_block k2 1).trans rfl, fun i => block_unfrozen k2 i⟩, ⟨(two_cells k4).1, (two_cells k4).2, (two_cells k3).1, (two_cells k3).2⟩⟩
/-- the result cells' stores leave what the system owns alone -/
theorem SysD.at_.keep {w w' : World} {B : Nat} {s : SysD} (h : SysD.at_ w B s) (hk : ∀ p : Addr, p.block < B → w'.cell? p = w.cell? p) : SysD.at_ w' B s := ⟨h.blocks.keep hk, h.ropes.keep hk, fun r hr => SlAt.keep (h.each r hr) hk⟩
theorem SysSt.put {W x : World} {s : SysD} (h : SysSt W s x) {o i : Nat} {v : Value} {cs : Array Value} {t' : TypeId} (ho : x.heap[o]? = some (.cells cs t' (0, 0))) (h1 : 50 ≠ t') (h2 : 53 ≠ t') (h3 : 57 ≠ t') (hlo : W.heap.size ≤ o) : SysSt W s (x.setCell ⟨o, i, none⟩ v) := by
  have key : ∀ (g : Nat) (cur : Array Value) (t : TypeId), x.heap[g]? = some (Obj.cells cur t (0, 0)) → t ≠ t' → (x.setCell ⟨o, i, none⟩ v).heap[g]? = x.heap[g]? := fun g cur t hg ht => RowKit.Below.heap_setCell _ _ _ _ fun e => by
    simp only at e
    subst e
    rw [ho] at hg
    injection hg with hg
    injection hg with _ hg
    exact ht hg.symm
  refine ⟨h.bel.setCell (p := ⟨o, i, none⟩) hlo _, own_block h.blk fun g hg => ?_, own_block h.rop fun g hg => ?_, fun r hr => (h.holds r hr).imp id fun h4 => h4.of fun g cur hc => key g cur _ hc h3, h.ok⟩
  · obtain ⟨c, hc⟩ := own_type h.blk g hg
    exact key g c _ hc h1
  · obtain ⟨c, hc⟩ := own_type h.rop g hg
    exact key g c _ hc h2
theorem SysSt.from {w W x : World} {s : SysD} (hu : Below w.heap.size w W) (h : SysSt W s x) : SysSt w s x :=
  ⟨hu.trans (h.bel.mono hu.size), Joins.ownsRow_le h.blk hu.size, Joins.ownsRow_le h.rop hu.size, fun r hr => (h.holds r hr).imp id fun h4 => h4.base hu.size, h.ok⟩
/-- the stores into the result cells -/
theorem SysSt.put4 {W x : World} {s : SysD} {r1 r2 : Nat} {a b c d : Value} (h : SysSt W s x) (h1 : x.heap[r1]? = some (.cells #[a, b] 25 (0, 0))) (h2 : x.heap[r2]? = some (.cells #[c, d] 29 (0, 0))) (hlo : W.heap.size ≤ r1) (hlt : r1 < r2) (p q u v : Value) :
    SysSt W s ((((x.setCell ⟨r1, 0, none⟩ p).setCell ⟨r1, 1, none⟩ q).setCell ⟨r2, 0, none⟩ u).setCell ⟨r2, 1, none⟩ v) := by
  have k1 : ((x.setCell ⟨r1, 0, none⟩ p).setCell ⟨r1, 1, none⟩ q).heap[r2]? = some (.cells #[c, d] 29 (0, 0)) := (RowKit.Below.heap_setCell _ _ _ _ (by simp only; omega)).trans ((RowKit.Below.heap_setCell _ _ _ _ (by simp only; omega)).trans h2)
  have e1 := h.put (i := 0) (v := p) h1 (by decide) (by decide) (by decide) hlo
  have e2 := e1.put (i := 1) (v := q) (block_set h1 (i := 0) p) (by decide) (by decide) (by decide) hlo
  have e3 := e2.put (i := 0) (v := u) k1 (by decide) (by decide) (by decide) (by omega)
  exact e3.put (i := 1) (v := v) (block_set k1 (i := 0) u) (by decide) (by decide) (by decide) (by omega)
end Go.Proofs.YtgamhdbcejkllaaGreatDoor
namespace Go.Proofs.YtgamhdbcejkllaaGreatDoor
open Go.RowKit

set_option maxRecDepth 100000 in
set_option maxHeartbeats 8000000 in
theorem parse_any (T : ByteArray) (hT : T.size ≤ 400000) (w : World) (ht : TabsT w) : Calls Tryz.prog 6 #[.string T] w (ParseR w (bs T)) := by
  obtain ⟨W1, hW1, hs1, hb1, hh1⟩ := boxed w (.cells #[.slice none 0 0, .slice none 0 0] 25)
  obtain ⟨W, hW, hs2, hb2, hh2⟩ := boxed W1 (.cells #[.int .i64 0, .int .i64 0] 29)
  obtain ⟨V, hV, hs3, hb3, hh3⟩ := boxed W (.cells #[.slice none 0 0, .slice none 0 0] 25)
  have hwW : Below w.heap.size w W := hb1.trans (hb2.mono (by omega))
  obtain ⟨r1, hr1⟩ : ∃ r, r = w.heap.size := ⟨_, rfl⟩
  rw [← hr1] at hh1 hs1
  have hr2 : W1.heap.size = r1 + 1 := by omega
  rw [hr2] at hh2 hs2
  have hr3 : W.heap.size = r1 + 1 + 1 := by omega
  have hc1 := fun z : After W.heap.size W => (z.below.block r1 (by omega)).trans ((hb2.block r1 (by omega)).trans hh1)
  have hc2 := fun z : After W.heap.size W => (z.below.block (r1 + 1) (by omega)).trans hh2
  have HRA := hide fun (z : After W.heap.size W) (p q u v : Value) => res_all (hc1 z) (hc2 z) (by omega) p q u v
  have HC1 := hide hc1
  have HC2 := hide hc2
  have HWW := hide hwW
  have HT := hide (ht.below hwW)
  have HIN0 := hide (show SysIn W (r1 + 1 + 1) noSys V from ⟨SysSt.start hb3, by omega, by rw [← hr3]; exact hh3⟩)
  have HW := hide (show W = (w.alloc (.cells #[.slice none 0 0, .slice none 0 0] 25)).alloc (.cells #[.int .i64 0, .int .i64 0] 29) by rw [hW, hW1])
  have HV := hide hV
  have HR1 := hide hr1
  have HVB := hide hb3
  have hr1W : r1 < W.heap.size := by omega
  have hbT := bs_length T
  -- a bad answer
  have HBAD : Hid (∀ (z : After W.heap.size W) (l c er : Int), ParseOf (bs T) noSys l c er → ParseR w (bs T) (.returned (.tuple #[.agg #[.slice none 0 0, .slice none 0 0], .agg #[.int .i64 l, .int .i64 c], .int .i64 er])) ((((z.val.setCell ⟨r1, 0, none⟩ (.slice none 0 0)).setCell ⟨r1, 1, none⟩ (.slice none 0 0)).setCell ⟨r1 + 1, 0, none⟩ (.int .i64 l)).setCell ⟨r1 + 1, 1, none⟩ (.int .i64 c))) := hide fun z l c er h =>
    ⟨noSys, l, c, er, rfl, h, noSys_ok, noSys_at _ _, (((((HWW.out.trans (z.below.mono (by omega))).setCell (p := ⟨r1, 0, none⟩) (by simp only; omega) _).setCell (p := ⟨r1, 1, none⟩) (by simp only; omega) _).setCell (p := ⟨r1 + 1, 0, none⟩) (by simp only; omega) _).setCell (p := ⟨r1 + 1, 1, none⟩) (by simp only; omega) _)⟩
  have HBT := hide hbT
  clear hW1 hW hV hb1 hb2 hb3 hh1 hh2 hh3 hs1 hs2 hr1 hwW ht hc1 hc2 hbT hr2
  by_cases hbig : (262144 : Int) < (T.size : Int)
  · have HP := hide (show ParseOf (bs T) noSys 0 0 4 from Or.inl ⟨by have := HBT.out; omega, rfl, rfl, rfl, rfl⟩)
    have hra := fun p q u v => HRA.out (After.refl _ _) p q u v
    simp only [After.refl] at hra
    have hra2 := (hra (.slice none 0 0) (.slice none 0 0) (.int .i64 0) (.int .i64 0))
    go_enter Tryz.func6, Tryz.ntmps6
    go_upto_region 2 with fail
    rw [← HR1.out, ← HW.out]
    go_wp2_with fail
    refine bodyPost_ret (by simp [results, Tryz.results6, go_sem, hra2]; try rfl) rfl ?_
    exact HBAD.out (After.refl _ _) 0 0 4 HP.out
  have hsm : T.size ≤ 262144 := by omega
  have HSM := hide (show (bs T).length ≤ 262144 by have := HBT.out; omega)
  go_enter Tryz.func6, Tryz.ntmps6
  go_upto_region 4 with fail
  rw [← HR1.out, ← HW.out, ← HV.out]
  obtain ⟨o, ho⟩ : ∃ o, o = r1 + 1 + 1 := ⟨_, rfl⟩
  rw [← ho] at HIN0 ⊢
  have HO := hide ho
  have hoW : W.heap.size = o := by omega
  have HOW := hide hoW
  clear ho hoW hr3
  go_wp2_with fail
  go_loopw [0, 6, 7, 8, 9] (fun a z _ _ _ wr => ∃ (rest : ByteArray) (i : Nat) (s : SysD), a = .string rest ∧ z = .int .i64 i ∧ rest.size + i ≤ T.size + 1 ∧ s.blocks.l.length + s.ropes.l.length ≤ i ∧ Hid (LinesAt fracOk (bs T) s.plain i (bs rest)) ∧ Hid (SysIn W o s wr)) (fun a _ _ _ _ _ => match a with | .string b => b.size | _ => 0)
  case atStart => exact ⟨T, 1, noSys, rfl, rfl, by omega, by simp [noSys], hide (LinesAt.start fracOk (bs T)), HIN0⟩
  case round =>
    obtain ⟨rest, i, s, rfl, rfl, hsz, hln, hla, hin⟩ := hrel
    rcases Nat.eq_zero_or_pos rest.size with h0 | h0
    · have hemp := toList_nil h0
      have hbe : bs rest = [] := hemp
      have HLD := hide (show linesE fracOk ⟨[], []⟩ 1 (partsOf 10 (bs T)) = .ok s.plain by have h := hla.out; rw [hbe] at h; exact h.done)
      have hbx := two_cells hin.out.box
      have KV := hide (Gives.first (validS_any s hin.out.st.ok wr wr.heap.size (Nat.le_refl _) hin.out.st.at_))
      obtain ⟨v, hv⟩ : ∃ v, sysOk s = v := ⟨_, rfl⟩
      rw [hv] at KV
      have HVV := hide hv
      have hbW := hin.out.st.bel
      have HBW := hide hbW
      have hbWs := hbW.size
      have hbxz := fun z : After wr.heap.size wr => two_cells ((hin.out.more z.below).box)
      clear hbe hla hsz h0 hv hbW
      cases v
      · have HP := hide (show ParseOf (bs T) noSys 0 0 1 from Or.inr (Or.inr (Or.inr ⟨HSM.out, ⟨s, HLD.out, HVV.out⟩, rfl, rfl, rfl, rfl⟩)))
        go_wp2_with (go_at_call 15; refine KV.out.mono ?_; rintro e w1 ⟨rfl, z, rfl⟩; have hra2 := HRA.out ⟨z.val, HBW.out.trans (z.below.mono hbWs)⟩ (.slice none 0 0) (.slice none 0 0) (.int .i64 0) (.int .i64 0); simp only at hra2)
        refine bodyPost_ret (by simp [results, Tryz.results6, go_sem, hra2]; try rfl) rfl ?_
        exact HBAD.out ⟨z.val, HBW.out.trans (z.below.mono hbWs)⟩ 0 0 1 HP.out
      · have HP := hide (show ParseOf (bs T) s 0 0 0 from Or.inr (Or.inr (Or.inl ⟨HSM.out, HLD.out, HVV.out, rfl, rfl, rfl⟩)))
        go_wp2_with (go_at_call 15; refine KV.out.mono ?_; rintro e w1 ⟨rfl, z, rfl⟩; have hbz := hbxz z; have hra2 := HRA.out ⟨z.val, HBW.out.trans (z.below.mono hbWs)⟩ (.slice s.blocks.A s.blocks.l.length s.blocks.cap) (.slice s.ropes.A s.ropes.l.length s.ropes.cap) (.int .i64 0) (.int .i64 0); simp only at hra2)
        refine bodyPost_ret (by simp [results, Tryz.results6, go_sem, hra2]; try rfl) rfl ?_
        have HZ : After W.heap.size W := ⟨z.val, HBW.out.trans (z.below.mono hbWs)⟩
        have hst := (hin.out.st.more z.below).from HWW.out
        have hst4 := hst.put4 (HC1.out ⟨z.val, HBW.out.trans (z.below.mono hbWs)⟩) (HC2.out ⟨z.val, HBW.out.trans (z.below.mono hbWs)⟩) (by rw [HR1.out]; exact Nat.le_refl _) (by omega) (.slice s.blocks.A s.blocks.l.length s.blocks.cap) (.slice s.ropes.A s.ropes.l.length s.ropes.cap) (.int .i64 0) (.int .i64 0)
        exact ⟨s, 0, 0, 0, rfl, HP.out, hst4.ok, hst4.at_, hst4.bel⟩
    · have hne := toList_ne h0
      have hine := toList_isEmpty h0
      have hbx := two_cells hin.out.box
      have hbW := hin.out.st.bel
      have HBW := hide hbW
      have hbWs := hbW.size
      have KC := hide (cut_any 10 rest wr (HT.out.below hbW) (by omega))
      have hi64 : (i : Int) ≤ 400001 := by omega
      clear hbW
      go_wp2_with fail
      refine KC.out.mono ?_
      rintro e w1 ⟨a, b, t, rfl, hb, hr⟩
      have hIn1 : SysIn W o s w1 := hin.out.more hb
      have hb1s := hb.size
      have HWB1 := hide (HBW.out.trans (hb.mono hbWs))
      have hT1 := HT.out.below HWB1.out
      have hbR := bs_length rest
      rcases hr with ⟨rfl, he, hno⟩ | ⟨rfl, rfl, rfl, hno⟩
      · have hlen : a.size + (b.size + 1) = rest.size := by
          have := congrArg List.length he
          rw [List.length_append, List.length_cons, bs_length, bs_length, bs_length] at this
          omega
        have HLA := hide (show LinesAt fracOk (bs T) s.plain i (bs a ++ 10 :: bs b) by rw [← he]; exact hla.out)
        have HNO := hide hno
        have KL := hide (line_any W o s a (by omega) (by omega) w1 hIn1 hT1)
        have hra := fun (z : World) (hz : Below W.heap.size W z) => HRA.out ⟨z, hz⟩ (.slice none 0 0) (.slice none 0 0) (.int .i64 i) (.int .i64 1)
        simp only at hra
        have HRB := hide hra
        clear he hno hb hIn1 hT1 hla hbR hra hbx hine hne
        go_upto_region 8 with fail
        go_wp2_with (go_at_call 18; refine KL.out.mono ?_; rintro e w2 ⟨ok, rfl, hb2, hr2⟩; have hra2 := HRB.out w2 hb2)
        · rename_i hok
          refine bodyPost_ret (by simp [results, Tryz.results6, go_sem, hra2]; try rfl) rfl ?_
          rcases hr2 with ⟨hf, _⟩ | ⟨_, hle⟩
          · rw [hf] at hok; cases hok
          · exact HBAD.out ⟨w2, hb2⟩ i 1 7 (Or.inr (Or.inl ⟨HSM.out, i, HLA.out.stop HNO.out hle, rfl, rfl, rfl, rfl⟩))
        · rename_i hok
          rcases hr2 with ⟨_, s', hle, hcnt, hin2⟩ | ⟨hf, _⟩
          · exact ⟨⟨b, i + 1, s', rfl, by go_num, by omega, by omega, hide (HLA.out.next HNO.out hle), hide hin2⟩, by simp only; omega⟩
          · rw [hf] at hok; cases hok
      · have HP := hide (show ParseOf (bs T) noSys i 1 7 from Or.inr (Or.inl ⟨HSM.out, i, hla.out.open_ (fun h => by rw [h] at hbR; simp at hbR; omega) hno, rfl, rfl, rfl, rfl⟩))
        have hra2 := HRA.out ⟨w1, HWB1.out⟩ (.slice none 0 0) (.slice none 0 0) (.int .i64 i) (.int .i64 1)
        simp only at hra2
        clear hno hb hIn1 hT1 hla hbR hbx hine hne
        go_wp2_with fail
        refine bodyPost_ret (by simp [results, Tryz.results6, go_sem, hra2]; try rfl) rfl ?_
        exact HBAD.out ⟨w1, HWB1.out⟩ i 1 7 HP.out
end Go.Proofs.YtgamhdbcejkllaaGreatDoor
