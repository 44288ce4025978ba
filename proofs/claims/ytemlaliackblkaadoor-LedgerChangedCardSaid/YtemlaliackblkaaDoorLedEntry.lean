/- ledger.entry. -/
import Derived.Test.YtemlaliackblkaaDoorLedNum
import Derived.Lib.SlBytesRow
import Derived.Deep.DeepCutAuto
namespace Go.Proofs.YtemlaliackblkaaDoor
open Go.RowKit

/-- what the reading of the first line gives -/
def EntryIs (l : List UInt8) (x : LogD) (s n : Int) (ok : Bool) : Prop :=
  match l.findIdx? (fun c => c == 10) with
  | none => ok = false
  | some m => ReadIs (l.take m) x s ok ∧ (ok = true → n = (m : Int) + 1)
theorem EntryIs.off {l : List UInt8} {x : LogD} {s n : Int} (h : l.findIdx? (fun c => c == 10) = none) : EntryIs l x s n false := by rw [EntryIs, h]
theorem EntryIs.no {l : List UInt8} {x : LogD} {s n : Int} {m : Nat} (h : l.findIdx? (fun c => c == 10) = some m) (he : entryE (l.take m) = none) : EntryIs l x s n false := by
  rw [EntryIs, h]; exact ⟨ReadIs.no he, fun h => by cases h⟩
theorem EntryIs.yes {l : List UInt8} {x : LogD} {s n : Int} {m : Nat} (h : l.findIdx? (fun c => c == 10) = some m) (he : entryE (l.take m) = some (x, s)) (hn : n = (m : Int) + 1) : EntryIs l x s n true := by
  rw [EntryIs, h]; exact ⟨ReadIs.yes he, fun _ => hn⟩
def zeroLog : LogD := ⟨0, ⟨#[]⟩, 0, 0⟩
/-- the numbers read so far: the word's own if it has been read -/
def nv (k i : Nat) (s : ByteArray) : Value := .int .i64 (if i < k then intV (bs s) else 0)
def okTo (a c d e : ByteArray) (k : Nat) : Bool := (decide (k ≤ 0) || intOk (bs a)) && (decide (k ≤ 2) || intOk (bs c)) && (decide (k ≤ 3) || intOk (bs d)) && (decide (k ≤ 4) || intOk (bs e))
theorem five_none {line : List UInt8} {a b c d e : ByteArray} (h : [a, b, c, d, e].map bs = partsOf 32 line) (hn : (isName b && intOk (bs a) && intOk (bs c) && intOk (bs d) && intOk (bs e)) = false) : entryE line = none := by
  rw [entry_five h, hn]; rfl
theorem five_some {line : List UInt8} {a b c d e : ByteArray} (h : [a, b, c, d, e].map bs = partsOf 32 line) (hn : isName b = true) (ho : okTo a c d e 5 = true) : entryE line = some (⟨intV (bs a), b, intV (bs c), intV (bs d)⟩, intV (bs e)) := by
  simp only [okTo, Bool.and_eq_true, Bool.or_eq_true, decide_eq_true_eq] at ho
  rw [entry_five h, hn]
  have h1 : intOk (bs a) = true := by rcases ho.1.1.1 with h | h; · omega
                                      · exact h
  have h2 : intOk (bs c) = true := by rcases ho.1.1.2 with h | h; · omega
                                      · exact h
  have h3 : intOk (bs d) = true := by rcases ho.1.2 with h | h; · omega
                                      · exact h
  have h4 : intOk (bs e) = true := by rcases ho.2 with h | h; · omega
                                      · exact h
  rw [h1, h2, h3, h4]; rfl
theorem part_size {l : List UInt8} {LB : List ByteArray} (k : UInt8) (h : LB.map bs = partsOf k l) : ∀ s ∈ LB, s.size ≤ l.length := fun s hs => by
  have h1 : bs s ∈ partsOf k l := by rw [← h]; exact List.mem_map_of_mem hs
  have key : ∀ (l : List UInt8), ∀ p ∈ partsOf k l, p.length ≤ l.length := by
    intro l
    induction l with
    | nil => intro p hp; simp [partsOf] at hp; subst hp; simp
    | cons c l ih =>
      intro p hp
      obtain ⟨q, t, e⟩ := partsOf_ne k l
      by_cases hc : c = k
      · rw [partsOf, if_pos hc] at hp
        rcases List.mem_cons.1 hp with rfl | hp
        · simp
        · have := ih p hp; simp; omega
      · rw [partsOf, if_neg hc, e] at hp
        simp only at hp
        rcases List.mem_cons.1 hp with rfl | hp
        · have := ih q (by rw [e]; simp); simp; omega
        · have := ih p (by rw [e]; exact List.mem_cons_of_mem _ hp); simp; omega
  have := key l _ h1
  rwa [bs_length] at this
theorem four_set {z : World} {g : Nat} {a b c d : Value} {t : TypeId} {fr : Nat × Nat} (h : z.heap[g]? = some (.cells #[a, b, c, d] t fr)) (v0 v1 v2 v3 : Value) :
    (z.setCell ⟨g, 0, none⟩ v0).cell? ⟨g, 0, none⟩ = some v0 ∧ ((z.setCell ⟨g, 0, none⟩ v0).setCell ⟨g, 1, none⟩ v1).cell? ⟨g, 1, none⟩ = some v1 ∧
    (((z.setCell ⟨g, 0, none⟩ v0).setCell ⟨g, 1, none⟩ v1).setCell ⟨g, 2, none⟩ v2).cell? ⟨g, 2, none⟩ = some v2 ∧
    ((((z.setCell ⟨g, 0, none⟩ v0).setCell ⟨g, 1, none⟩ v1).setCell ⟨g, 2, none⟩ v2).setCell ⟨g, 3, none⟩ v3).cell? ⟨g, 3, none⟩ = some v3 := by
  have h0 := block_set (i := 0) h v0
  have h1 := block_set (i := 1) h0 v1
  have h2 := block_set (i := 2) h1 v2
  have h3 := block_set (i := 3) h2 v3
  exact ⟨(Joins.cell_of_block h0 0).trans rfl, (Joins.cell_of_block h1 1).trans rfl, (Joins.cell_of_block h2 2).trans rfl, (Joins.cell_of_block h3 3).trans rfl⟩
theorem four_below {w z : World} {g : Nat} (hg : w.heap.size ≤ g) (h : Below w.heap.size w z) (v0 v1 v2 v3 : Value) : Below w.heap.size w ((((z.setCell ⟨g, 0, none⟩ v0).setCell ⟨g, 1, none⟩ v1).setCell ⟨g, 2, none⟩ v2).setCell ⟨g, 3, none⟩ v3) :=
  (((h.setCell (p := ⟨g, 0, none⟩) hg v0).setCell (p := ⟨g, 1, none⟩) hg v1).setCell (p := ⟨g, 2, none⟩) hg v2).setCell (p := ⟨g, 3, none⟩) hg v3
set_option maxRecDepth 100000 in
set_option maxHeartbeats 8000000 in
theorem entry_any (g off cap : Nat) (l : List UInt8) (hl : 0 < l.length) (hl2 : l.length ≤ 4000000000) (w : World) (ht : Tabs w) (B : Nat) (hB : B ≤ w.heap.size) (hs : SlAt w B 1 byteCells ⟨some ⟨g, off, none⟩, cap, l⟩) :
    Calls Tryd.prog 38 #[.slice (some ⟨g, off, none⟩) l.length cap] w fun e w' => ∃ (x : LogD) (s n : Int) (ok : Bool), e = .returned (.tuple #[.agg #[.int .i64 x.day, .string x.rope, .int .i64 x.kind, .int .i64 x.runs], .int .i64 s, .int .i64 n, .bool ok]) ∧ EntryIs l x s n ok ∧ Below w.heap.size w w' := by
  obtain ⟨W, hW, hWs, hWb, hWh⟩ := boxed w (.cells #[.int .i64 zeroLog.day, .string zeroLog.rope, .int .i64 zeroLog.kind, .int .i64 zeroLog.runs] 24)
  have hc := fun y : After W.heap.size W => LogD.boxed hWh (by omega) y
  have hf0 := fun (y : After W.heap.size W) v0 => (four_set (y.below.block _ (by omega) |>.trans hWh) v0 v0 v0 v0).1
  have hf1 := fun (y : After W.heap.size W) v0 v1 => (four_set (y.below.block _ (by omega) |>.trans hWh) v0 v1 v0 v0).2.1
  have hf2 := fun (y : After W.heap.size W) v0 v1 v2 => (four_set (y.below.block _ (by omega) |>.trans hWh) v0 v1 v2 v0).2.2.1
  have hf3 := fun (y : After W.heap.size W) v0 v1 v2 v3 => (four_set (y.below.block _ (by omega) |>.trans hWh) v0 v1 v2 v3).2.2.2
  have hfz := fun (y : After W.heap.size W) i => block_unfrozen (y.below.block _ (by omega) |>.trans hWh) i
  have htW := ht.below hWb
  have hsW := hs.to (hWb.mono hB) (show B ≤ W.heap.size by omega)
  have KIX := hide (Gives.first (indexByte_any hsW hl))
  have hlc : l.length ≤ cap := hs.1
  have hlm : cap ≤ 9223372036854775807 := hs.2.1
  have HBD := hide fun y : After W.heap.size W => hWb.trans (y.below.mono (by omega))
  have HW := hide hW
  have HWs := hide hWs
  have HT := hide htW
  have HS := hide hsW
  have hz : zeroLog.day = 0 ∧ zeroLog.rope = ⟨#[]⟩ ∧ zeroLog.kind = 0 ∧ zeroLog.runs = 0 := ⟨rfl, rfl, rfl, rfl⟩
  rw [hz.1, hz.2.1, hz.2.2.1, hz.2.2.2] at hc HW
  rw [index_find] at KIX
  clear hW hWs hWh hWb ht htW hs hsW hz
  go_enter Tryd.func38, Tryd.ntmps38
  go_wp2_with fail
  rw [← HW.out]
  refine KIX.out.mono ?_
  rintro e w1 ⟨rfl, y, rfl⟩
  rcases hf : l.findIdx? (fun c => c == 10) with _ | m
  · have HF := hide hf
    clear hf
    simp only
    go_wp2
    refine bodyPost_ret (by simp [results, Tryd.results38, go_sem, hf0, hf1, hf2, hf3]; try rfl) rfl ?_
    exact ⟨zeroLog, 0, 0, false, rfl, EntryIs.off HF.out, four_below (Nat.le_refl _) (HBD.out _) _ _ _ _⟩
  · simp only
    have hm := (find10 hf).1
    have HF := hide hf
    have hst := fun W : World => slice_to (P := Tryd.prog) W 22 5 1 Tryd.underlying22 Tryd.sizeOf5 (some ⟨g, off, none⟩) l.length cap m (by omega)
    obtain ⟨sb, hsb⟩ : ∃ sb : ByteArray, sb = ⟨(l.take m).toArray⟩ := ⟨_, rfl⟩
    have hsz : sb.size = m := by rw [hsb]; simp [ByteArray.size]; omega
    have hcv := Lib.run_convert_whole (P := Tryd.prog) y.val 22 5 9 Tryd.underlying22 Tryd.underlying5 Tryd.underlying9 g off sb (by rw [hsb]; exact bytes_of ((HS.out.to y.below (Nat.le_refl _)).take m)) cap
    rw [hsz] at hcv
    have HBS := hide (show bs sb = l.take m by rw [hsb]; exact bs_toArray _)
    have KSP := hide (split_any 32 sb y.val (HT.out.below y.below) (by omega))
    have hmi : ¬ (m : Int) < 0 := by omega
    clear hf hsb
    go_wp2_with fail
    refine KSP.out.mono ?_
    rintro e w1 ⟨LB, hLB, rfl, hw1⟩
    have hbel : Below W.heap.size W w1 := by rw [hw1]; exact y.below.alloc y.size _
    have hblk : w1.heap[y.val.heap.size]? = some (.cells (LB.map Value.string).toArray 9 (0, 0)) := by rw [hw1]; exact heap_alloc_new _ _
    rw [HBS.out] at hLB
    obtain ⟨sp, hsp⟩ : ∃ sp, sp = y.val.heap.size := ⟨_, rfl⟩
    rw [← hsp] at hblk ⊢
    have hspw : sp < w1.heap.size := (Array.getElem?_eq_some_iff.1 hblk).1
    have hspW : W.heap.size ≤ sp := by rw [hsp]; exact y.size
    obtain ⟨z, rfl⟩ := After.exists_iff hbel
    clear hw1 hbel hst hcv hsp
    by_cases h5 : LB.length = 5
    · obtain ⟨a, b, c, d, e, rfl⟩ := list_five h5
      have hw0 := fun x : After z.val.heap.size z.val => x.cells hblk hspw 0 (.string a) rfl
      have hw1 := fun x : After z.val.heap.size z.val => x.cells hblk hspw 1 (.string b) rfl
      have hw2 := fun x : After z.val.heap.size z.val => x.cells hblk hspw 2 (.string c) rfl
      have hw3 := fun x : After z.val.heap.size z.val => x.cells hblk hspw 3 (.string d) rfl
      have hw4 := fun x : After z.val.heap.size z.val => x.cells hblk hspw 4 (.string e) rfl
      have hz1 : z.val.cell? ⟨sp, 1, none⟩ = some (.string b) := hw1 (After.refl _ _)
      have hsizes := part_size 32 hLB
      have hbz : b.size ≤ maxLen := by have := hsizes b (by simp); rw [List.length_take] at this; unfold maxLen; omega
      have hIN := fun (s : ByteArray) (hs : s ∈ [a, b, c, d, e]) (x : After z.val.heap.size z.val) => integer_any s (by have := hsizes s hs; rw [List.length_take] at this; omega) x.val ((HT.out.below z.below).below x.below)
      have KN := hide (Gives.first (isName_any b z.val hbz))
      have HLB := hide hLB
      have HIN := hide hIN
      have HZ := hide (fun (x : World) (h : Below z.val.heap.size z.val x) => (z.below.trans (h.mono z.size) : Below W.heap.size W x))
      clear hsizes hLB hblk hIN h5
      simp only [List.length_cons, List.length_nil, Nat.reduceAdd]
      cases hnm : isName b
      · rw [hnm] at KN
        have HN := hide (five_none HLB.out (by rw [hnm]; rfl))
        clear hnm
        go_wp2_with fail
        refine KN.out.mono ?_
        rintro e1 w1 ⟨rfl, x, rfl⟩
        obtain ⟨x2, hx2⟩ := After.exists_iff (HZ.out _ x.below)
        rw [hx2]
        go_wp2
        refine bodyPost_ret (by simp [results, Tryd.results38, go_sem, hf0, hf1, hf2, hf3]; try rfl) rfl ?_
        exact ⟨zeroLog, 0, 0, false, rfl, EntryIs.no HF.out HN.out, four_below (Nat.le_refl _) (HBD.out _) _ _ _ _⟩
      · rw [hnm] at KN
        have HNM := hide hnm
        clear hnm
        go_wp2_with fail
        refine KN.out.mono ?_
        rintro e1 w1 ⟨rfl, x, rfl⟩
        obtain ⟨U, hU, hUs, hUb, hUh⟩ := boxed x.val (.cells #[.int .i64 0, .int .i64 0, .int .i64 0, .int .i64 0, .int .i64 0] 79)
        obtain ⟨gn, hgn⟩ : ∃ gn, gn = x.val.heap.size := ⟨_, rfl⟩
        have HU := hide (show U.heap[gn]? = some (.cells #[nv 0 0 a, .int .i64 0, nv 0 2 c, nv 0 3 d, nv 0 4 e] 79 (0, 0)) by rw [hgn]; exact hUh)
        have HUW := hide hU
        have HUB := hide (x.below.trans (hUb.mono x.size) : Below z.val.heap.size z.val U)
        have hgz : z.val.heap.size ≤ gn := by rw [hgn]; exact x.size
        clear hUs hUb hUh hU
        go_wp2_with fail
        rw [← HUW.out, ← hgn]
        clear HUW hgn
        go_loopw [34] (fun v wr => ∃ k : Nat, v = .int .i64 k ∧ k ≤ 5 ∧ Hid (okTo a c d e k = true) ∧ Hid (wr.heap[gn]? = some (.cells #[nv k 0 a, .int .i64 0, nv k 2 c, nv k 3 d, nv k 4 e] 79 (0, 0))) ∧ Hid (Below z.val.heap.size z.val wr)) (fun v _ => 5 - (intOf v).toNat)
        case atStart => exact ⟨0, rfl, by omega, hide (by simp [okTo]), HU, HUB⟩
        case round =>
          obtain ⟨k, rfl, hk, HO, HG, HB⟩ := hrel
          have hfg := fun i => block_unfrozen HG.out i
          have hgl : gn < wr.heap.size := (Array.getElem?_eq_some_iff.1 HG.out).1
          have hsg := fun i v => block_set (i := i) HG.out v
          rcases (show k = 0 ∨ k = 1 ∨ k = 2 ∨ k = 3 ∨ k = 4 ∨ k = 5 by omega) with rfl | rfl | rfl | rfl | rfl | rfl
          · have hq := hw0 ⟨wr, HB.out⟩
            simp only at hq
            have KI := hide (HIN.out a (by simp) ⟨wr, HB.out⟩)
            simp only at KI
            go_wp2_with fail
            refine KI.out.mono ?_
            rintro e1 w1 ⟨n, rfl, hn, hb1⟩
            have hG1 := (hb1.block gn hgl).trans HG.out
            have hfg1 := fun i => block_unfrozen hG1 i
            have HS1 := hide (block_set (i := 0) hG1 (.int .i64 n))
            have HB1 := hide (HB.out.trans (hb1.mono HB.out.size) : Below z.val.heap.size z.val w1)
            have hN1 := hide hn
            have hcg : w1.cell? ⟨gn, 0, none⟩ = some (nv 0 0 a) := (Lib.cell_of_heap hG1 0).trans rfl
            clear hn hb1 hG1 hq KI
            cases ho : intOk (bs a)
            · have HN := hide (five_none HLB.out (by rw [ho]; simp))
              obtain ⟨x2, hx2⟩ := After.exists_iff (HZ.out _ (HB1.out.setCell (p := ⟨gn, 0, none⟩) hgz (.int .i64 n)))
              go_wp2
              refine bodyPost_ret (by simp [results, Tryd.results38, go_sem, hf0, hf1, hf2, hf3]; try rfl) rfl ?_
              exact ⟨zeroLog, 0, 0, false, rfl, EntryIs.no HF.out HN.out, four_below (Nat.le_refl _) (HBD.out _) _ _ _ _⟩
            · have hev := hide (hN1.out ho)
              have HO2 := hide (show okTo a c d e 1 = true by have := HO.out; simp only [okTo] at this ⊢; simp [ho] at this ⊢; try simp [this])
              go_wp2
              exact ⟨⟨1, by go_num, by omega, HO2, hide (HS1.out.trans (by rw [hev.out]; rfl)), hide (HB1.out.setCell (p := ⟨gn, 0, none⟩) hgz _)⟩, by simp [intOf]⟩
          · have hq := hw1 ⟨wr, HB.out⟩
            simp only at hq
            have HN2 := hide (show wr.heap[gn]? = some (.cells #[nv 2 0 a, .int .i64 0, nv 2 2 c, nv 2 3 d, nv 2 4 e] 79 (0, 0)) from HG.out)
            have HO2 := hide (show okTo a c d e 2 = true by have := HO.out; simpa [okTo] using this)
            clear hsg
            go_wp2
            exact ⟨⟨2, by go_num, by omega, HO2, HN2, HB⟩, by simp [intOf]⟩
          · have hq := hw2 ⟨wr, HB.out⟩
            simp only at hq
            have KI := hide (HIN.out c (by simp) ⟨wr, HB.out⟩)
            simp only at KI
            go_wp2_with fail
            refine KI.out.mono ?_
            rintro e1 w1 ⟨n, rfl, hn, hb1⟩
            have hG1 := (hb1.block gn hgl).trans HG.out
            have hfg1 := fun i => block_unfrozen hG1 i
            have HS1 := hide (block_set (i := 2) hG1 (.int .i64 n))
            have HB1 := hide (HB.out.trans (hb1.mono HB.out.size) : Below z.val.heap.size z.val w1)
            have hN1 := hide hn
            have hcg : w1.cell? ⟨gn, 2, none⟩ = some (nv 2 2 c) := (Lib.cell_of_heap hG1 2).trans rfl
            clear hn hb1 hG1 hq KI
            cases ho : intOk (bs c)
            · have HN := hide (five_none HLB.out (by rw [ho]; simp))
              obtain ⟨x2, hx2⟩ := After.exists_iff (HZ.out _ (HB1.out.setCell (p := ⟨gn, 2, none⟩) hgz (.int .i64 n)))
              go_wp2
              refine bodyPost_ret (by simp [results, Tryd.results38, go_sem, hf0, hf1, hf2, hf3]; try rfl) rfl ?_
              exact ⟨zeroLog, 0, 0, false, rfl, EntryIs.no HF.out HN.out, four_below (Nat.le_refl _) (HBD.out _) _ _ _ _⟩
            · have hev := hide (hN1.out ho)
              have HO2 := hide (show okTo a c d e 3 = true by have := HO.out; simp only [okTo] at this ⊢; simp [ho] at this ⊢; try simp [this])
              go_wp2
              exact ⟨⟨3, by go_num, by omega, HO2, hide (HS1.out.trans (by rw [hev.out]; rfl)), hide (HB1.out.setCell (p := ⟨gn, 2, none⟩) hgz _)⟩, by simp [intOf]⟩
          · have hq := hw3 ⟨wr, HB.out⟩
            simp only at hq
            have KI := hide (HIN.out d (by simp) ⟨wr, HB.out⟩)
            simp only at KI
            go_wp2_with fail
            refine KI.out.mono ?_
            rintro e1 w1 ⟨n, rfl, hn, hb1⟩
            have hG1 := (hb1.block gn hgl).trans HG.out
            have hfg1 := fun i => block_unfrozen hG1 i
            have HS1 := hide (block_set (i := 3) hG1 (.int .i64 n))
            have HB1 := hide (HB.out.trans (hb1.mono HB.out.size) : Below z.val.heap.size z.val w1)
            have hN1 := hide hn
            have hcg : w1.cell? ⟨gn, 3, none⟩ = some (nv 3 3 d) := (Lib.cell_of_heap hG1 3).trans rfl
            clear hn hb1 hG1 hq KI
            cases ho : intOk (bs d)
            · have HN := hide (five_none HLB.out (by rw [ho]; simp))
              obtain ⟨x2, hx2⟩ := After.exists_iff (HZ.out _ (HB1.out.setCell (p := ⟨gn, 3, none⟩) hgz (.int .i64 n)))
              go_wp2
              refine bodyPost_ret (by simp [results, Tryd.results38, go_sem, hf0, hf1, hf2, hf3]; try rfl) rfl ?_
              exact ⟨zeroLog, 0, 0, false, rfl, EntryIs.no HF.out HN.out, four_below (Nat.le_refl _) (HBD.out _) _ _ _ _⟩
            · have hev := hide (hN1.out ho)
              have HO2 := hide (show okTo a c d e 4 = true by have := HO.out; simp only [okTo] at this ⊢; simp [ho] at this ⊢; try simp [this])
              go_wp2
              exact ⟨⟨4, by go_num, by omega, HO2, hide (HS1.out.trans (by rw [hev.out]; rfl)), hide (HB1.out.setCell (p := ⟨gn, 3, none⟩) hgz _)⟩, by simp [intOf]⟩
          · have hq := hw4 ⟨wr, HB.out⟩
            simp only at hq
            have KI := hide (HIN.out e (by simp) ⟨wr, HB.out⟩)
            simp only at KI
            go_wp2_with fail
            refine KI.out.mono ?_
            rintro e1 w1 ⟨n, rfl, hn, hb1⟩
            have hG1 := (hb1.block gn hgl).trans HG.out
            have hfg1 := fun i => block_unfrozen hG1 i
            have HS1 := hide (block_set (i := 4) hG1 (.int .i64 n))
            have HB1 := hide (HB.out.trans (hb1.mono HB.out.size) : Below z.val.heap.size z.val w1)
            have hN1 := hide hn
            have hcg : w1.cell? ⟨gn, 4, none⟩ = some (nv 4 4 e) := (Lib.cell_of_heap hG1 4).trans rfl
            clear hn hb1 hG1 hq KI
            cases ho : intOk (bs e)
            · have HN := hide (five_none HLB.out (by rw [ho]; simp))
              obtain ⟨x2, hx2⟩ := After.exists_iff (HZ.out _ (HB1.out.setCell (p := ⟨gn, 4, none⟩) hgz (.int .i64 n)))
              go_wp2
              refine bodyPost_ret (by simp [results, Tryd.results38, go_sem, hf0, hf1, hf2, hf3]; try rfl) rfl ?_
              exact ⟨zeroLog, 0, 0, false, rfl, EntryIs.no HF.out HN.out, four_below (Nat.le_refl _) (HBD.out _) _ _ _ _⟩
            · have hev := hide (hN1.out ho)
              have HO2 := hide (show okTo a c d e 5 = true by have := HO.out; simp only [okTo] at this ⊢; simp [ho] at this ⊢; try simp [this])
              go_wp2
              exact ⟨⟨5, by go_num, by omega, HO2, hide (HS1.out.trans (by rw [hev.out]; rfl)), hide (HB1.out.setCell (p := ⟨gn, 4, none⟩) hgz _)⟩, by simp [intOf]⟩
          · have HN := hide (five_some HLB.out HNM.out HO.out)
            have hv0 : wr.cell? ⟨gn, 0, none⟩ = some (.int .i64 (intV (bs a))) := (Lib.cell_of_heap HG.out 0).trans rfl
            have hv2 : wr.cell? ⟨gn, 2, none⟩ = some (.int .i64 (intV (bs c))) := (Lib.cell_of_heap HG.out 2).trans rfl
            have hv3 : wr.cell? ⟨gn, 3, none⟩ = some (.int .i64 (intV (bs d))) := (Lib.cell_of_heap HG.out 3).trans rfl
            have hv4 : wr.cell? ⟨gn, 4, none⟩ = some (.int .i64 (intV (bs e))) := (Lib.cell_of_heap HG.out 4).trans rfl
            have hq := hw1 ⟨wr, HB.out⟩
            simp only at hq
            obtain ⟨x2, hx2⟩ := After.exists_iff (HZ.out _ HB.out)
            subst hx2
            clear hsg hfg
            go_wp2
            go_region
            go_wp2
            refine bodyPost_ret (by simp [results, Tryd.results38, go_sem, hf0, hf1, hf2, hf3]; try rfl) rfl ?_
            exact ⟨⟨intV (bs a), b, intV (bs c), intV (bs d)⟩, intV (bs e), (m : Int) + 1, true, rfl, EntryIs.yes HF.out HN.out rfl, (four_below (Nat.le_refl _) (HBD.out _) _ _ _ _).drew⟩
    · have HN := hide (entry_words hLB h5)
      have h5i : ((LB.length : Int) != 5) = true := by simp; omega
      clear hLB h5 hblk
      go_wp2
      refine bodyPost_ret (by simp [results, Tryd.results38, go_sem, hf0, hf1, hf2, hf3]; try rfl) rfl ?_
      exact ⟨zeroLog, 0, 0, false, rfl, EntryIs.no HF.out HN.out, four_below (Nat.le_refl _) (HBD.out _) _ _ _ _⟩
end Go.Proofs.YtemlaliackblkaaDoor
