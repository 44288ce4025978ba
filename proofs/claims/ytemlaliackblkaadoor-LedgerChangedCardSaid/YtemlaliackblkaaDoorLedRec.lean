/- ledger.record. -/
import Derived.Test.YtemlaliackblkaaDoorLedCat
namespace Go.Proofs.YtemlaliackblkaaDoor
open Go.RowKit

def itoaB (n : Int) : ByteArray := ⟨(Lib.itoa n).toArray⟩
theorem app_size (a b : ByteArray) : (a ++ b).size = a.size + b.size := ByteArray.size_append
theorem bs_app (a b : ByteArray) : bs (a ++ b) = bs a ++ bs b := by rw [bs_data, bs_data, bs_data, Joins.data_append]
theorem bs_itoa (n : Int) : bs (itoaB n) = Lib.itoa n := bs_toArray _
def headB (x : LogD) : ByteArray := itoaB x.day ++ ⟨#[32]⟩ ++ x.rope ++ ⟨#[32]⟩ ++ itoaB x.kind ++ ⟨#[32]⟩ ++ itoaB x.runs ++ ⟨#[32]⟩
theorem bs_headB (x : LogD) : bs (headB x) = headE x := by
  unfold headB
  simp only [bs_app, bs_itoa]
  have : bs (⟨#[32]⟩ : ByteArray) = [32] := bs_toArray [32]
  rw [this, headE]
  simp
def recB (pre : List UInt8) (x : LogD) : ByteArray := headB x ++ itoaB (sumE (pre ++ headE x)) ++ ⟨#[10]⟩
theorem bs_recB (pre : List UInt8) (x : LogD) : bs (recB pre x) = recE pre x := by
  unfold recB
  simp only [bs_app, bs_itoa, bs_headB]
  have : bs (⟨#[10]⟩ : ByteArray) = [10] := bs_toArray [10]
  rw [this, recE]
  simp
theorem headB_size (x : LogD) (hx : x.ok) : (headB x).size ≤ x.rope.size + 67 := by
  have h1 := itoa_size x.day hx.day
  have h2 := itoa_size x.kind hx.kind
  have h3 := itoa_size x.runs hx.runs
  unfold headB itoaB
  simp only [app_size]
  have e : (⟨#[32]⟩ : ByteArray).size = 1 := rfl
  omega
theorem sum64 (l : List UInt8) : I64 (sumE l : Int) := by
  have := sumE_lt l
  unfold I64
  omega
theorem recB_size (pre : List UInt8) (x : LogD) (hx : x.ok) : (recB pre x).size ≤ x.rope.size + 89 := by
  have h1 := headB_size x hx
  have h2 := itoa_size _ (sum64 (pre ++ headE x))
  unfold recB itoaB
  simp only [app_size]
  have e : (⟨#[10]⟩ : ByteArray).size = 1 := rfl
  omega
theorem recE_length (pre : List UInt8) (x : LogD) (hx : x.ok) : (recE pre x).length ≤ x.rope.size + 89 := by
  rw [← bs_recB, bs_length]; exact recB_size pre x hx
theorem below_bytes (B : Nat) (w : World) (e : TypeId) (s : ByteArray) (h : B ≤ w.heap.size) : Below B w (Lib.bytesWorld w e s) := Joins.below_bytesWorld B w e s h
/-- a string's bytes in a block of their own -/
theorem bytes_slAt (w : World) (e : TypeId) (s : ByteArray) (hs : s.size ≤ maxLen) : SlAt (Lib.bytesWorld w e s) (w.heap.size + 1) 1 byteCells ⟨some ⟨w.heap.size, 0, none⟩, grownCap w s.size 0 e, bs s⟩ := by
  refine ⟨by simp only [bs_length]; exact grownCap_ge w _ 0 e, grownCap_le_maxLen w _ 0 e hs, fun _ => ⟨_, _, rfl, Nat.lt_succ_self _, fun i c hc j u hu => ?_⟩⟩
  simp only at hc
  have hj : j = 0 := by
    have := (List.getElem?_eq_some_iff.1 hu).1
    rw [byteCells_len] at this; omega
  subst hj
  simp [byteCells] at hu
  subst hu
  have hi := (List.getElem?_eq_some_iff.1 hc).1
  rw [bs_length] at hi
  have := Lib.bytesWorld_cell w e s i hi
  rw [Nat.mul_one, Nat.add_zero, Nat.zero_add, this]
  rw [bs_data] at hc
  simp [List.getD, hc]
set_option maxRecDepth 100000 in
set_option maxHeartbeats 4000000 in
theorem record_any (A : Option Addr) (cap : Nat) (l : List UInt8) (hA : A = none → cap = 0) (hl : l.length ≤ 1000000000) (x : LogD) (hx : x.ok) (hr : x.rope.size ≤ 1000) (w : World) (ht : Tabs w) (B : Nat) (hB : B ≤ w.heap.size) (hs : SlAt w B 1 byteCells ⟨A, cap, l⟩) :
    Calls Tryd.prog 31 #[.slice A l.length cap, .agg #[.int .i64 x.day, .string x.rope, .int .i64 x.kind, .int .i64 x.runs]] w fun e w' => ∃ A' cap', e = .returned (.slice (some A') (recE l x).length cap') ∧ SlAt w' w'.heap.size 1 byteCells ⟨some A', cap', recE l x⟩ ∧ Below w.heap.size w w' := by
  obtain ⟨W, hW, hWs, hWb, hWh⟩ := boxed w (.cells #[.int .i64 x.day, .string x.rope, .int .i64 x.kind, .int .i64 x.runs] 24)
  have hc := fun y : After W.heap.size W => LogD.boxed hWh (by omega) y
  have HBD := hide fun y : After W.heap.size W => hWb.trans (y.below.mono (by omega))
  have htW := ht.below hWb
  have KI := hide fun (m : Int) (hm : I64 m) (y : After W.heap.size W) => Gives.after (x := y) (Nat.le_refl _) (itoa_any m hm y.val (htW.below y.below))
  have HS := hide (fun y : After W.heap.size W => (hs.to (hWb.mono hB) (show B ≤ W.heap.size by omega)).to y.below (Nat.le_refl _))
  have YR : W = (After.refl W.heap.size W).val := rfl
  have HW := hide hW
  have e1 : ∀ m, (⟨(Lib.itoa m).toArray⟩ : ByteArray) = itoaB m := fun _ => rfl
  simp only [e1] at KI
  have z1 : (itoaB x.day).size ≤ 21 := itoa_size _ hx.day
  have z2 : (itoaB x.kind).size ≤ 21 := itoa_size _ hx.kind
  have z3 : (itoaB x.runs).size ≤ 21 := itoa_size _ hx.runs
  have HOK := hide hx
  have HZH := hide (headB_size x hx)
  have HHB := hide (show headB x = itoaB x.day ++ ⟨#[32]⟩ ++ x.rope ++ ⟨#[32]⟩ ++ itoaB x.kind ++ ⟨#[32]⟩ ++ itoaB x.runs ++ ⟨#[32]⟩ from rfl)
  have hcv := fun (V : World) (s : ByteArray) => Lib.run_convert_string_bytes (P := Tryd.prog) V 9 22 5 s Tryd.underlying9 Tryd.underlying22 Tryd.underlying5
  clear hW hWs hWh hWb ht htW hs e1 hx
  go_enter Tryd.func31, Tryd.ntmps31
  go_wp2_with fail
  rw [← HW.out, YR]
  refine wp_region_after (After.refl _ _) (by kernel_rfl) (by kernel_rfl) ?_
  repeat (go_big_quiet_step (first
    | (go_at_call_of 47 x.day; exact KI.out x.day HOK.out.day _)
    | (go_at_call_of 47 x.kind; exact KI.out x.kind HOK.out.kind _)
    | (go_at_call_of 47 x.runs; exact KI.out x.runs HOK.out.runs _)))
  refine wpQuiet_nil ?_
  intro z
  rw [← HHB.out]
  go_wp2_with fail
  obtain ⟨V, hV⟩ : ∃ V, V = ((Lib.bytesWorld z.val 5 (headB x)).alloc (.cells #[.slice A l.length cap, .slice (some ⟨z.val.heap.size, 0, none⟩) (headB x).size (grownCap z.val (headB x).size 0 5)] 22)) := ⟨_, rfl⟩
  obtain ⟨g, hg⟩ : ∃ g, g = (Lib.bytesWorld z.val 5 (headB x)).heap.size := ⟨_, rfl⟩
  rw [← hV, ← hg]
  have hbz := below_bytes z.val.heap.size z.val 5 (headB x) (Nat.le_refl _)
  have hg1 : g = z.val.heap.size + 1 := by rw [hg, Lib.bytesWorld_size]
  have hbg : Below g (Lib.bytesWorld z.val 5 (headB x)) V := by rw [hV, hg]; exact (Below.refl _ _).alloc (Nat.le_refl _) _
  have hVg : V.heap[g]? = some (.cells #[.slice A l.length cap, .slice (some ⟨z.val.heap.size, 0, none⟩) (headB x).size (grownCap z.val (headB x).size 0 5)] 22 (0, 0)) := by rw [hV, hg]; exact heap_alloc_new _ _
  have hVs : V.heap.size = g + 1 := by rw [hV, hg]; simp
  have hzV : Below z.val.heap.size z.val V := hbz.trans (hbg.mono (by omega))
  have hzs := z.size
  have hWV : Below W.heap.size W V := z.below.trans (hzV.mono hzs)
  have hsz := HZH.out
  have hline := (bytes_slAt z.val 5 (headB x) (by unfold maxLen; omega)).to (hbg.mono (by omega)) (show z.val.heap.size + 1 ≤ V.heap.size by omega)
  have hbefore := (HS.out ⟨V, hWV⟩).more (show W.heap.size ≤ V.heap.size by omega)
  obtain ⟨lh, hlh⟩ : ∃ lh, lh = l ++ headE x := ⟨_, rfl⟩
  obtain ⟨S, hS⟩ : ∃ S : Int, S = (sumE lh : Nat) := ⟨_, rfl⟩
  have hcat := concat_any A (some ⟨z.val.heap.size, 0, none⟩) cap _ l (bs (headB x)) hA (fun h => by cases h) (by rw [bs_length]; omega) g V V.heap.size (Nat.le_refl _) hbefore hline (by omega) (two_cells hVg).1 (by rw [bs_length]; exact (two_cells hVg).2)
  rw [bs_headB, ← hlh] at hcat
  have S64 := hide (show I64 S by rw [hS]; exact sum64 lh)
  have HSS := hide hS
  have HRB := hide (show recB l x = headB x ++ itoaB S ++ ⟨#[10]⟩ by rw [hS, hlh]; rfl)
  have HRS := hide (recB_size l x HOK.out)
  clear hS hlh
  have HWV := hide hWV
  have hVW : W.heap.size ≤ V.heap.size := by omega
  have HCAT := hide hcat
  clear hV hg hbz hbg hVg hzV hline hbefore hcat hg1 hVs hWV hzs
  refine HCAT.out.mono ?_
  rintro e w1 ⟨v, rfl, st⟩
  obtain ⟨A1, cap1, rfl, hs1⟩ := st.slAt byteCells_len
  have hW1 : Below W.heap.size W w1 := HWV.out.trans (st.bel.mono hVW)
  have KS := hide (Gives.first (sum_any A1 cap1 lh w1 w1.heap.size (Nat.le_refl _) hs1))
  rw [← HSS.out] at KS
  have HW1 := hide hW1
  have hw1 := hW1.size
  have hlc := hs1.1
  have hlm := hs1.2.1
  simp only at hlc hlm
  unfold maxLen at hlm
  clear st hs1 hW1 HCAT
  go_wp2_with fail
  refine KS.out.mono ?_
  rintro e w2 ⟨rfl, y, rfl⟩
  have hW2 : Below W.heap.size W y.val := HW1.out.trans (y.below.mono hw1)
  go_wp2_with fail
  refine (KI.out S S64.out ⟨y.val, hW2⟩).mono ?_
  rintro e w3 ⟨rfl, q, rfl⟩
  have zs : (itoaB S).size ≤ 21 := itoa_size _ S64.out
  go_wp2_with fail
  rw [← HRB.out]
  go_ret
  have hrs := HRS.out
  have hfin := bytes_slAt q.val 5 (recB l x) (by unfold maxLen; omega)
  have hsum : (recB l x).size = (headB x).size + (itoaB S).size + 1 := by rw [HRB.out, app_size, app_size]; rfl
  have hlen : (headB x).size + (itoaB S).size + 1 = (recE l x).length := by rw [← hsum, ← bs_recB, bs_length]
  rw [bs_recB, hsum] at hfin
  exact ⟨⟨q.val.heap.size, 0, none⟩, grownCap q.val ((headB x).size + (itoaB S).size + 1) 0 5, by rw [← hlen]; rfl, hfin.more (by rw [Lib.bytesWorld_size]; exact Nat.le_refl _), (HBD.out q).trans (below_bytes _ _ _ _ (HBD.out q).size)⟩
end Go.Proofs.YtemlaliackblkaaDoor
