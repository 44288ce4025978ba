/- The reference's Read. -/
import Derived.Test.YtemlaliackblkaaDoorLedEntry
import Derived.Test.YtemlaliackblkaaDoorLedRef
import Derived.Test.YtemlaliackblkaaDoorLedOwn
namespace Go.Proofs.YtemlaliackblkaaDoor
open Go.RowKit

def strCellsOf (s : ByteArray) : List Value := [.string s]
theorem strCellsOf_len (s : ByteArray) : (strCellsOf s).length = 1 := rfl
theorem bs_part (s : ByteArray) (a b : Nat) : bs (s.extract a b) = ((bs s).drop a).take (b - a) := by
  rw [bs_data, bs_data, ByteArray.data_extract, Array.toList_extract]
/-- how far the words have been read: those before, and the one begun -/
def SplitTo (s : ByteArray) (W : List ByteArray) (fro i : Nat) : Prop :=
  (i ≤ s.size ∧ fro ≤ i ∧ partsOf 32 (bs s) = W.map bs ++ partsOf 32 ((bs s).drop fro) ∧ ∀ (j : Nat) (c : UInt8), fro ≤ j → j < i → (bs s)[j]? = some c → c ≠ 32) ∨ (i = s.size + 1 ∧ W.map bs = partsOf 32 (bs s))
theorem SplitTo.start (s : ByteArray) : SplitTo s [] 0 0 := Or.inl ⟨Nat.zero_le _, Nat.le_refl _, rfl, fun j c _ h => absurd h (by omega)⟩
theorem part_plain {s : ByteArray} {fro i : Nat} (h : ∀ (j : Nat) (c : UInt8), fro ≤ j → j < i → (bs s)[j]? = some c → c ≠ 32) : ∀ c ∈ ((bs s).drop fro).take (i - fro), c ≠ 32 := fun c hc => by
  obtain ⟨j, hj, e⟩ := List.getElem_of_mem hc
  rw [List.length_take, List.length_drop] at hj
  refine h (fro + j) c (by omega) (by omega) ?_
  rw [← e, List.getElem_take, List.getElem_drop, List.getElem?_eq_getElem]
theorem SplitTo.more {s : ByteArray} {W : List ByteArray} {fro i : Nat} {c : UInt8} (h : SplitTo s W fro i) (hi : i < s.size) (hc : (bs s)[i]? = some c) (hn : c ≠ 32) : SplitTo s W fro (i + 1) := by
  rcases h with ⟨h1, h2, h3, h4⟩ | ⟨h1, _⟩
  · refine Or.inl ⟨hi, by omega, h3, fun j d hj hj2 hd => ?_⟩
    by_cases e : j = i
    · subst e; rw [hc] at hd; injection hd with hd; rw [← hd]; exact hn
    · exact h4 j d hj (by omega) hd
  · omega
theorem SplitTo.cut {s : ByteArray} {W : List ByteArray} {fro i : Nat} (h : SplitTo s W fro i) (hi : i < s.size) (hc : (bs s)[i]? = some 32) : SplitTo s (W ++ [s.extract fro i]) (i + 1) (i + 1) := by
  rcases h with ⟨h1, h2, h3, h4⟩ | ⟨h1, _⟩
  · refine Or.inl ⟨hi, Nat.le_refl _, ?_, fun j d hj hj2 _ => absurd hj2 (by omega)⟩
    have hl := bs_length s
    have e : (bs s).drop fro = ((bs s).drop fro).take (i - fro) ++ 32 :: (bs s).drop (i + 1) := by
      have h5 : ((bs s).drop fro)[i - fro]? = some 32 := by rw [List.getElem?_drop, show fro + (i - fro) = i by omega]; exact hc
      obtain ⟨hlt, e2⟩ := List.getElem?_eq_some_iff.1 h5
      conv => lhs; rw [← List.take_append_drop (i - fro) ((bs s).drop fro), List.drop_eq_getElem_cons hlt, e2]
      rw [List.drop_drop, show fro + (i - fro + 1) = i + 1 by omega]
    rw [h3, e, partsOf_cut _ _ (part_plain h4), List.map_append, List.map_singleton, bs_part, List.append_assoc]
    rfl
  · omega
theorem SplitTo.last {s : ByteArray} {W : List ByteArray} {fro : Nat} (h : SplitTo s W fro s.size) : SplitTo s (W ++ [s.extract fro s.size]) (s.size + 1) (s.size + 1) := by
  rcases h with ⟨_, h2, h3, h4⟩ | ⟨h1, _⟩
  · refine Or.inr ⟨rfl, ?_⟩
    have hl := bs_length s
    have hp := part_plain h4
    rw [List.take_of_length_le (by rw [List.length_drop]; omega)] at hp
    rw [h3, partsOf_plain _ hp, List.map_append, List.map_singleton, bs_part, List.take_of_length_le (by rw [List.length_drop]; omega)]
  · omega
theorem SplitTo.done {s : ByteArray} {W : List ByteArray} {fro i : Nat} (h : SplitTo s W fro i) (hi : s.size < i) : W.map bs = partsOf 32 (bs s) := by
  rcases h with ⟨h1, _⟩ | ⟨_, h2⟩
  · omega
  · exact h2
theorem SplitTo.le {s : ByteArray} {W : List ByteArray} {fro i : Nat} (h : SplitTo s W fro i) (hi : i ≤ s.size) : fro ≤ i := by
  rcases h with ⟨_, h2, _⟩ | ⟨h1, _⟩
  · exact h2
  · omega
theorem str_one (l : List ByteArray) : ∀ u ∈ l.flatMap strCellsOf, u.oneCell' = true := fun u hu => by
  obtain ⟨c, _, h⟩ := List.mem_flatMap.1 hu
  simp [strCellsOf] at h
  subst h; rfl
set_option maxRecDepth 100000 in
set_option maxHeartbeats 8000000 in
theorem refRead_any (s : ByteArray) (hs : s.size ≤ 4000000000) (w : World) :
    Calls Tryd.prog 41 #[.string s] w fun e w' => ∃ (x : LogD) (n : Int) (ok : Bool), e = .returned (.tuple #[.agg #[.int .i64 x.day, .string x.rope, .int .i64 x.kind, .int .i64 x.runs], .int .i64 n, .bool ok]) ∧ ReadIs (bs s) x n ok ∧ Below w.heap.size w w' := by
  obtain ⟨i2, hi2, hy0, hy1, hy2⟩ := info_parts infoStr
  have HI := hide (And.intro hi2 (And.intro hy0 (And.intro hy1 hy2)))
  obtain ⟨W, hW, hWs, hWb, hWh⟩ := boxed w (.cells #[.int .i64 zeroLog.day, .string zeroLog.rope, .int .i64 zeroLog.kind, .int .i64 zeroLog.runs] 24)
  have hz : zeroLog.day = 0 ∧ zeroLog.rope = ⟨#[]⟩ ∧ zeroLog.kind = 0 ∧ zeroLog.runs = 0 := ⟨rfl, rfl, rfl, rfl⟩
  have hc := fun y : After W.heap.size W => LogD.boxed hWh (by omega) y
  have hf0 := fun (y : After W.heap.size W) v0 => (four_set (y.below.block _ (by omega) |>.trans hWh) v0 v0 v0 v0).1
  have hf1 := fun (y : After W.heap.size W) v0 v1 => (four_set (y.below.block _ (by omega) |>.trans hWh) v0 v1 v0 v0).2.1
  have hf2 := fun (y : After W.heap.size W) v0 v1 v2 => (four_set (y.below.block _ (by omega) |>.trans hWh) v0 v1 v2 v0).2.2.1
  have hf3 := fun (y : After W.heap.size W) v0 v1 v2 v3 => (four_set (y.below.block _ (by omega) |>.trans hWh) v0 v1 v2 v3).2.2.2
  have hfz := fun (y : After W.heap.size W) i => block_unfrozen (y.below.block _ (by omega) |>.trans hWh) i
  have HBD := hide fun y : After W.heap.size W => hWb.trans (y.below.mono (by omega))
  have HW := hide hW
  rw [hz.1, hz.2.1, hz.2.2.1, hz.2.2.2] at hc HW
  have hlen := bs_length s
  have HLEN := hide hlen
  have HBY := hide (fun k (h : k < s.size) => bs_get s k h)
  clear hi2 hy0 hy1 hy2 hW hWs hWb hWh hz hlen
  go_enter Tryd.func41, Tryd.ntmps41
  go_wp2_with fail
  rw [← HW.out]
  go_loopw [5, 6, 7] (fun u v z wr => ∃ (L : List ByteArray) (fro i : Nat), v = .int .i64 fro ∧ z = .int .i64 i ∧ i ≤ s.size + 1 ∧ L.length ≤ i ∧ Hid (SplitTo s L fro i) ∧ Hid (OwnSt 9 1 strCellsOf W u L wr)) (fun _ _ z _ => s.size + 1 - (intOf z).toNat)
  case atStart => exact ⟨[], 0, 0, rfl, rfl, Nat.zero_le _, Nat.le_refl _, hide (SplitTo.start s), hide (OwnSt.start _ _ _ (Below.refl _ _))⟩
  case round =>
    obtain ⟨L, fro, i, rfl, rfl, hi, hL, HSP, HST⟩ := hrel
    by_cases hlt : i ≤ s.size
    · have hfi := HSP.out.le hlt
      have b0 : (0 : Int) ≤ (fro : Int) := by omega
      have b1 : (fro : Int) ≤ (i : Int) := by omega
      have b2 : (i : Int) ≤ (s.size : Int) := by omega
      rcases (show i = s.size ∨ i < s.size by omega) with he | hlt2
      · subst he
        have HN := hide HSP.out.last
        go_wp2_with (at_builtin; refine wpList_append_own _ rfl _ _ 77 rfl W.heap.size 9 i2 (.string ⟨#[]⟩) 1 16 Tryd.underlying77 HI.out.1 HI.out.2.1 HI.out.2.2.1 HI.out.2.2.2 rfl (by decide) _ _ _ rfl (HST.out.own.alloc _) ⟨wr.heap.size, 0, none⟩ 1 1 [.string (s.extract fro s.size)] rfl rfl (World.news_of_block (cs := #[.string (s.extract fro s.size)]) (t := 9) (fr := (0, 0)) (heap_alloc_new wr _)) (fun u hu => str_one [s.extract fro s.size] u (by simpa [strCellsOf] using hu)) (by unfold maxLen; omega) (by omega) (by have := HST.out.bel.size; simp; omega) ?_)
        intro v6 w6 hown6 hgr6 _
        have HN6 := hide (OwnSt.append (ls := [s.extract fro s.size]) HST.out ((Below.refl _ _).alloc (Nat.le_refl _) _) (by simpa [strCellsOf] using hown6) hgr6)
        clear hown6 hgr6
        go_wp2
        exact ⟨⟨L ++ [s.extract fro s.size], s.size + 1, s.size + 1, by go_num, by go_num, by omega, by rw [List.length_append, List.length_singleton]; omega, HN, HN6⟩, by simp [intOf]⟩
      · have hx := HBY.out i hlt2
        have hi0 : (0 : Int) ≤ (i : Int) := by omega
        have hi1 : (i : Int) < (s.size : Int) := by omega
        have hie : ((i : Int) == (s.size : Int)) = false := by simp; omega
        by_cases h32 : s[i] = 32
        · have HN := hide (HSP.out.cut hlt2 (h32 ▸ hx))
          have hq : ((s[i].toNat : Int) == 32) = true := by rw [h32]; rfl
          clear h32 hx
          go_wp2_with (at_builtin; refine wpList_append_own _ rfl _ _ 77 rfl W.heap.size 9 i2 (.string ⟨#[]⟩) 1 16 Tryd.underlying77 HI.out.1 HI.out.2.1 HI.out.2.2.1 HI.out.2.2.2 rfl (by decide) _ _ _ rfl (HST.out.own.alloc _) ⟨wr.heap.size, 0, none⟩ 1 1 [.string (s.extract fro i)] rfl rfl (World.news_of_block (cs := #[.string (s.extract fro i)]) (t := 9) (fr := (0, 0)) (heap_alloc_new wr _)) (fun u hu => str_one [s.extract fro i] u (by simpa [strCellsOf] using hu)) (by unfold maxLen; omega) (by omega) (by have := HST.out.bel.size; simp; omega) ?_)
          intro v6 w6 hown6 hgr6 _
          have HN6 := hide (OwnSt.append (ls := [s.extract fro i]) HST.out ((Below.refl _ _).alloc (Nat.le_refl _) _) (by simpa [strCellsOf] using hown6) hgr6)
          clear hown6 hgr6
          go_wp2
          exact ⟨⟨L ++ [s.extract fro i], i + 1, i + 1, by go_num, by go_num, by omega, by rw [List.length_append, List.length_singleton]; omega, HN, HN6⟩, by simp [intOf]; omega⟩
        · have HN := hide (HSP.out.more hlt2 hx h32)
          have hq : ((s[i].toNat : Int) == 32) = false := by
            rw [beq_eq_false_iff_ne]
            intro e
            exact h32 (UInt8.toNat_inj.1 (by have : s[i].toNat = 32 := by omega
                                             rw [this]; rfl))
          clear h32 hx
          go_wp2
          exact ⟨⟨L, fro, i + 1, rfl, by go_num, by omega, by omega, HN, HST⟩, by simp [intOf]; omega⟩
    · have hD := HSP.out.done (by omega)
      obtain ⟨Av, Acap, rfl, hsl⟩ := HST.out.slAt strCellsOf_len
      have HB := hide HST.out.bel
      by_cases h5 : L.length = 5
      · obtain ⟨a, b, c, d, e, rfl⟩ := list_five h5
        obtain ⟨g, off, hA, hgB, hcell⟩ := hsl.2.2 (by simp)
        simp only at hA
        subst hA
        have hw : ∀ (y : After wr.heap.size wr) (k : Nat) (q : ByteArray), [a, b, c, d, e][k]? = some q → y.val.cell? ⟨g, off + k, none⟩ = some (.string q) := fun y k q hq => by
          have := hcell k q hq 0 _ rfl
          rw [Nat.mul_one, Nat.add_zero] at this
          exact y.cell this hgB
        have hw0 := fun y : After wr.heap.size wr => (show y.val.cell? ⟨g, off, none⟩ = some (.string a) from hw y 0 a rfl)
        have hw1 := fun y => hw y 1 b rfl
        have hw2 := fun y => hw y 2 c rfl
        have hw3 := fun y => hw y 3 d rfl
        have hw4 := fun y => hw y 4 e rfl
        have hz1 : wr.cell? ⟨g, off + 1, none⟩ = some (.string b) := hw1 (After.refl _ _)
        have hsizes := part_size 32 hD
        have hmx : ∀ q ∈ [a, b, c, d, e], q.size ≤ maxLen := fun q hq => by have := hsizes q hq; rw [HLEN.out] at this; unfold maxLen; omega
        have KN := hide (Gives.first (refIsName_any b wr (hmx b (by simp))))
        have KA := hide fun y : After wr.heap.size wr => Gives.after (x := y) (Nat.le_refl _) (refInteger_any a y.val (hmx a (by simp)))
        have KC := hide fun y : After wr.heap.size wr => Gives.after (x := y) (Nat.le_refl _) (refInteger_any c y.val (hmx c (by simp)))
        have KD := hide fun y : After wr.heap.size wr => Gives.after (x := y) (Nat.le_refl _) (refInteger_any d y.val (hmx d (by simp)))
        have KE := hide fun y : After wr.heap.size wr => Gives.after (x := y) (Nat.le_refl _) (refInteger_any e y.val (hmx e (by simp)))
        have HWR := hide fun y : After wr.heap.size wr => (HB.out.trans (y.below.mono HB.out.size) : Below W.heap.size W y.val)
        have H5 := hide (entry_five hD)
        obtain ⟨N, hN⟩ : ∃ N, N = isName b := ⟨_, rfl⟩
        obtain ⟨oa, hoa⟩ : ∃ o, o = intOk (bs a) := ⟨_, rfl⟩
        obtain ⟨oc, hoc⟩ : ∃ o, o = intOk (bs c) := ⟨_, rfl⟩
        obtain ⟨od, hod⟩ : ∃ o, o = intOk (bs d) := ⟨_, rfl⟩
        obtain ⟨oe, hoe⟩ : ∃ o, o = intOk (bs e) := ⟨_, rfl⟩
        obtain ⟨va, hva⟩ : ∃ o, o = intV (bs a) := ⟨_, rfl⟩
        obtain ⟨vc, hvc⟩ : ∃ o, o = intV (bs c) := ⟨_, rfl⟩
        obtain ⟨vd, hvd⟩ : ∃ o, o = intV (bs d) := ⟨_, rfl⟩
        obtain ⟨ve, hve⟩ : ∃ o, o = intV (bs e) := ⟨_, rfl⟩
        rw [← hN] at KN H5
        rw [← hoa, ← hva] at KA H5
        rw [← hoc, ← hvc] at KC H5
        rw [← hod, ← hvd] at KD H5
        rw [← hoe, ← hve] at KE H5
        obtain ⟨ra, hra⟩ : ∃ o : Int, o = (if oa then va else 0) := ⟨_, rfl⟩
        obtain ⟨rc, hrc⟩ : ∃ o : Int, o = (if oc then vc else 0) := ⟨_, rfl⟩
        obtain ⟨rd, hrd⟩ : ∃ o : Int, o = (if od then vd else 0) := ⟨_, rfl⟩
        obtain ⟨re, hre⟩ : ∃ o : Int, o = (if oe then ve else 0) := ⟨_, rfl⟩
        rw [← hra] at KA
        rw [← hrc] at KC
        rw [← hrd] at KD
        rw [← hre] at KE
        have HRA := hide (And.intro hra (And.intro hrc (And.intro hrd hre)))
        clear hra hrc hrd hre
        clear hN hoa hoc hod hoe hva hvc hvd hve hsizes hmx hw hcell hsl hD h5
        simp only [List.length_cons, List.length_nil, Nat.reduceAdd]
        cases N
        · have HN := hide (show entryE (bs s) = none by rw [H5.out]; rfl)
          go_wp2_with fail
          refine KN.out.mono ?_
          rintro e1 w1 ⟨rfl, y, rfl⟩
          obtain ⟨y2, hy2⟩ := After.exists_iff (HWR.out y)
          rw [hy2]
          go_wp2
          refine bodyPost_ret (by simp [results, Tryd.results41, go_sem, hf0, hf1, hf2, hf3]; try rfl) rfl ?_
          exact ⟨zeroLog, 0, false, rfl, ReadIs.no HN.out, four_below (Nat.le_refl _) (HBD.out _) _ _ _ _⟩
        · go_wp2_with fail
          refine KN.out.mono ?_
          rintro e1 w1 ⟨rfl, y, rfl⟩
          go_wp2_with fail
          refine (KA.out y).mono ?_
          rintro e1 w1 ⟨rfl, y, rfl⟩
          go_wp2_with fail
          refine (KC.out y).mono ?_
          rintro e1 w1 ⟨rfl, y, rfl⟩
          go_wp2_with fail
          refine (KD.out y).mono ?_
          rintro e1 w1 ⟨rfl, y, rfl⟩
          go_wp2_with fail
          refine (KE.out y).mono ?_
          rintro e1 w1 ⟨rfl, y, rfl⟩
          have hy1 := hw1 y
          obtain ⟨y2, hy2⟩ := After.exists_iff (HWR.out y)
          rw [hy2] at hy1 ⊢
          clear hw0 hw1 hw2 hw3 hw4 hz1 hy2
          have ways : (oa && oc && od && oe) = false ∨ (oa = true ∧ oc = true ∧ od = true ∧ oe = true) := by cases oa <;> cases oc <;> cases od <;> cases oe <;> simp
          rcases ways with hno | ⟨rfl, rfl, rfl, rfl⟩
          · have HN := hide (show entryE (bs s) = none by rw [H5.out]; simp only [Bool.true_and]; rw [hno]; rfl)
            rcases (show oa = false ∨ (oa = true ∧ oc = false) ∨ (oa = true ∧ oc = true ∧ od = false) ∨ (oa = true ∧ oc = true ∧ od = true ∧ oe = false) by revert hno; cases oa <;> cases oc <;> cases od <;> cases oe <;> simp) with rfl | ⟨rfl, rfl⟩ | ⟨rfl, rfl, rfl⟩ | ⟨rfl, rfl, rfl, rfl⟩
            all_goals
              clear hno
              go_wp2
              refine bodyPost_ret (by simp [results, Tryd.results41, go_sem, hf0, hf1, hf2, hf3]; try rfl) rfl ?_
              exact ⟨⟨ra, b, rc, rd⟩, re, false, rfl, ReadIs.no HN.out, four_below (Nat.le_refl _) (HBD.out _) _ _ _ _⟩
          · have HN := hide (show entryE (bs s) = some (⟨va, b, vc, vd⟩, ve) by rw [H5.out]; rfl)
            have e1 : ra = va ∧ rc = vc ∧ rd = vd ∧ re = ve := HRA.out
            obtain ⟨rfl, rfl, rfl, rfl⟩ := e1
            go_wp2
            refine bodyPost_ret (by simp [results, Tryd.results41, go_sem, hf0, hf1, hf2, hf3]; try rfl) rfl ?_
            exact ⟨⟨ra, b, rc, rd⟩, re, true, rfl, ReadIs.yes HN.out, four_below (Nat.le_refl _) (HBD.out _) _ _ _ _⟩
      · have HN := hide (entry_words hD h5)
        have h5i : ((L.length : Int) != 5) = true := by simp; omega
        obtain ⟨y2, hy2⟩ := After.exists_iff HB.out
        subst hy2
        clear hD h5 hsl
        go_wp2
        refine bodyPost_ret (by simp [results, Tryd.results41, go_sem, hf0, hf1, hf2, hf3]; try rfl) rfl ?_
        exact ⟨zeroLog, 0, false, rfl, ReadIs.no HN.out, four_below (Nat.le_refl _) (HBD.out _) _ _ _ _⟩
end Go.Proofs.YtemlaliackblkaaDoor
